/-
  Draws of codes, and the law FnIndexAll in the abstract machine
-/
import Derived.Test.YtjiklhnijhiphaaFnsD
import Derived.WideShapes
section
set_option linter.unusedVariables false
set_option linter.unusedSimpArgs false
namespace Go.Vm.T

/-! ### a reader of a code -/
abbrev u8C (n : Int) : List A := [.v (.int .u8 n)]
structure Code (ns : List Int) : Prop where
  len : ns.length ≤ 2000
  b : ∀ n ∈ ns, 0 ≤ n ∧ n ≤ 255
abbrev rdB (ns : List Int) (p : Nat) : Option Blk := some ⟨t_spec_l10RdV1, [[.lit t_uint8 (ns.map u8C), .n p]], true, true⟩
def xorI (a b : Int) : Int := IntKind.i64.wrap (BitVec.ofInt 64 a ^^^ BitVec.ofInt 64 b).toNat
theorem xorI_nonneg {a b : Nat} (ha : a < 2 ^ 62) (hb : b < 2 ^ 62) : 0 ≤ xorI a b := by
  unfold xorI
  have h1 : (BitVec.ofInt 64 (a : Int) ^^^ BitVec.ofInt 64 (b : Int)).toNat = a ^^^ b := by
    rw [BitVec.toNat_xor, BitVec.toNat_ofInt, BitVec.toNat_ofInt]
    have e : ((2 ^ 64 : Nat) : Int) = 2 ^ 64 := by norm_cast
    rw [e]
    have e1 : ((a : Int) % 2 ^ 64).toNat = a := by omega
    have e2 : ((b : Int) % 2 ^ 64).toNat = b := by omega
    rw [e1, e2]
  rw [h1]
  have h2 := Nat.xor_lt_two_pow ha hb
  rw [wrap_i64 (by omega) (by omega)]
  omega
theorem tmod_nat (a b : Nat) : ((a : Int)).tmod (b : Int) = ((a % b : Nat) : Int) := by
  rw [Int.tmod_eq_emod_of_nonneg (by omega)]; rfl
theorem tdiv_nat (a b : Nat) : ((a : Int)).tdiv (b : Int) = ((a / b : Nat) : Int) := by
  rw [Int.tdiv_eq_ediv_of_nonneg (by omega)]; rfl
theorem tmod_lt {x n : Int} (hx : 0 ≤ x) (hn : 1 ≤ n) : 0 ≤ x.tmod n ∧ x.tmod n < n := by
  rw [Int.tmod_eq_emod_of_nonneg hx]
  exact ⟨Int.emod_nonneg _ (by omega), Int.emod_lt_of_pos _ (by omega)⟩

/-- What is picked: less than n, if n is more than nothing. -/
def Picked (n x : Int) : Prop := (1 ≤ n → 0 ≤ x ∧ x < n) ∧ (n < 1 → x = 0)

set_option maxHeartbeats 2000000 in
theorem d_pick (ns : List Int) (hc : Code ns) (n : Int) (p : Nat) (hp : p ≤ 2 ^ 40) :
    ∃ x, Picked n x ∧ ∀ (D : Nat) (hD : 1 ≤ D) (h : Hp) (m b : Nat) (hb : b < m) (hh : h b = rdB ns p), dcl pr D f_spec_l10Rd_pick [.ptr b 0 0, .n n] h m = some ([.n x], upd h b (rdB ns (p + 1)), m) := by
  have hw : IntKind.i64.wrap ((p : Int) + 1) = ((p + 1 : Nat) : Int) := wrap_nat (by omega)
  have hw1 : IntKind.i64.wrap (((p + 1 : Nat) : Int) - 1) = (p : Int) := sub_one (by omega)
  by_cases h0 : n < 1
  · have hn := eq_true h0
    refine ⟨0, ⟨fun h1 => by omega, fun _ => rfl⟩, fun D hD h m b hb hh => ?_⟩
    · obtain ⟨D, rfl, hd⟩ := pred_of hD
      rw [v_spec_l10Rd_pick]
      simp only [c_spec_l10Rd_pick, go_sem, Nat.reduceEqDiff, Nat.reduceAdd, reduceIte, reduceCtorEq, Nat.reduceLeDiff, Nat.reduceLT, hh, hb, hw, hn]
  · have hn' : ¬ n < 1 := h0
    have hn := eq_false h0
    have hnz : (n = 0) = False := eq_false (by omega)
    cases ns with
    | nil =>
      refine ⟨0, ⟨fun _ => ⟨by omega, by omega⟩, fun _ => rfl⟩, fun D hD h m b hb hh => ?_⟩
      obtain ⟨D, rfl, hd⟩ := pred_of hD
      rw [v_spec_l10Rd_pick]
      have hz : ((0 : Nat) : Int) = 0 := rfl
      simp only [c_spec_l10Rd_pick, go_sem, Nat.reduceEqDiff, Nat.reduceAdd, reduceIte, reduceCtorEq, Nat.reduceLeDiff, Nat.reduceLT, hh, hb, hw, hn, hz]
      rfl
    | cons n0 ns0 =>
      generalize hns : n0 :: ns0 = ns at *
      have hpos : 0 < ns.length := by rw [← hns]; simp
      have hlz : (((ns.length : Nat) : Int) = 0) = False := eq_false (by omega)
      by_cases hlt : p < ns.length
      · have hg : ns[p]? = some ns[p] := List.getElem?_eq_getElem hlt
        have hr := map_at (f := u8C) hg
        have hbd := hc.b ns[p] (List.getElem_mem hlt)
        have hcv : IntKind.i64.wrap ns[p] = ns[p] := wrap_i64 (by omega) (by omega)
        refine ⟨ns[p].tmod n, ⟨fun h1 => tmod_lt hbd.1 h1, fun h1 => absurd h1 hn'⟩, fun D hD h m b hb hh => ?_⟩
        obtain ⟨D, rfl, hd⟩ := pred_of hD
        rw [v_spec_l10Rd_pick]
        generalize ns[p] = y at *
        simp only [c_spec_l10Rd_pick, go_sem, Nat.reduceEqDiff, Nat.reduceAdd, reduceIte, reduceCtorEq, Nat.reduceLeDiff, Nat.reduceLT, hh, hb, hw, hw1, hn, hnz, hlz, hlt, hr, hcv, List.length_map]
      · have hm1 : p % ns.length < ns.length := Nat.mod_lt _ hpos
        have hm2 : (p * 7 + 3) % ns.length < ns.length := Nat.mod_lt _ hpos
        have hg1 : ns[p % ns.length]? = some ns[p % ns.length] := List.getElem?_eq_getElem hm1
        have hg2 : ns[(p * 7 + 3) % ns.length]? = some ns[(p * 7 + 3) % ns.length] := List.getElem?_eq_getElem hm2
        have hr1 := map_at (f := u8C) hg1
        have hr2 := map_at (f := u8C) hg2
        have hb1 := hc.b _ (List.getElem_mem hm1)
        have hb2 := hc.b _ (List.getElem_mem hm2)
        have hdv : p / ns.length ≤ p := Nat.div_le_self _ _
        have t1 := tmod_nat p ns.length
        have t2 : (((p : Int) * 7) + 3).tmod (ns.length : Int) = (((p * 7 + 3) % ns.length : Nat) : Int) := by
          have := tmod_nat (p * 7 + 3) ns.length
          rw [← this]; rfl
        have t3 := tdiv_nat p ns.length
        generalize hy1 : ns[p % ns.length] = y1 at *
        generalize hy2 : ns[(p * 7 + 3) % ns.length] = y2 at *
        generalize hq : p / ns.length = q at *
        have w1 : IntKind.i64.wrap y1 = y1 := wrap_i64 (by omega) (by omega)
        have w2 : IntKind.i64.wrap y2 = y2 := wrap_i64 (by omega) (by omega)
        have w3 : IntKind.i64.wrap (y1 * 131) = y1 * 131 := wrap_i64 (by omega) (by omega)
        have w4 : IntKind.i64.wrap ((p : Int) * 7) = (p : Int) * 7 := wrap_i64 (by omega) (by omega)
        have w5 : IntKind.i64.wrap ((p : Int) * 7 + 3) = (p : Int) * 7 + 3 := wrap_i64 (by omega) (by omega)
        have w6 : IntKind.i64.wrap (y2 * 1117) = y2 * 1117 := wrap_i64 (by omega) (by omega)
        have w7 : IntKind.i64.wrap (y1 * 131 + y2 * 1117) = y1 * 131 + y2 * 1117 := wrap_i64 (by omega) (by omega)
        have w8 : IntKind.i64.wrap ((p : Int) * 29) = (p : Int) * 29 := wrap_i64 (by omega) (by omega)
        have w9 : IntKind.i64.wrap (y1 * 131 + y2 * 1117 + (p : Int) * 29) = y1 * 131 + y2 * 1117 + (p : Int) * 29 := wrap_i64 (by omega) (by omega)
        have wa : IntKind.i64.wrap (q : Int) = (q : Int) := wrap_i64 (by omega) (by omega)
        have wb : IntKind.i64.wrap ((q : Int) * 53) = (q : Int) * 53 := wrap_i64 (by omega) (by omega)
        have wc : IntKind.i64.wrap (y1 * 131 + y2 * 1117 + (p : Int) * 29 + (q : Int) * 53) = y1 * 131 + y2 * 1117 + (p : Int) * 29 + (q : Int) * 53 := wrap_i64 (by omega) (by omega)
        obtain ⟨z, hz⟩ : ∃ z : Nat, y1 * 131 + y2 * 1117 + (p : Int) * 29 + (q : Int) * 53 = (z : Int) := ⟨(y1 * 131 + y2 * 1117 + (p : Int) * 29 + (q : Int) * 53).toNat, by omega⟩
        have hzb : z < 2 ^ 60 := by omega
        have wz : IntKind.i64.wrap (z : Int) = (z : Int) := wrap_i64 (by omega) (by omega)
        have t4 : ((z : Int)).tdiv 64 = ((z / 64 : Nat) : Int) := tdiv_nat z 64
        have wd : IntKind.i64.wrap ((z / 64 : Nat) : Int) = ((z / 64 : Nat) : Int) := wrap_i64 (by omega) (by omega)
        have hx := xorI_nonneg (a := z) (b := z / 64) (by omega) (by omega)
        have hxe : IntKind.i64.wrap ((BitVec.ofInt 64 (z : Int) ^^^ BitVec.ofInt 64 ((z / 64 : Nat) : Int)).toNat : Int) = xorI z ((z / 64 : Nat) : Int) := rfl
        refine ⟨(xorI z ((z / 64 : Nat) : Int)).tmod n, ⟨fun h1 => tmod_lt hx h1, fun h1 => absurd h1 hn'⟩, fun D hD h m b hb hh => ?_⟩
        obtain ⟨D, rfl, hd⟩ := pred_of hD
        rw [v_spec_l10Rd_pick]
        have h64 : ((64 : Int) = 0) = False := eq_false (by decide)
        simp only [c_spec_l10Rd_pick, go_sem, Nat.reduceEqDiff, Nat.reduceAdd, reduceIte, reduceCtorEq, Nat.reduceLeDiff, Nat.reduceLT, hh, hb, hw, hw1, hn, hnz, hlz, hlt, hr1, hr2, t1, t2, t3, w1, w2, w3, w4, w5, w6, w7, w8, w9, wa, wb, wc, wz, hz, t4, wd, hxe, h64, List.length_map]
        rfl
end Go.Vm.T
end

section
set_option linter.unusedVariables false
set_option linter.unusedSimpArgs false
namespace Go.Vm.T

/-- A heap that is known below a name only. -/
def mix (m : Nat) (f g : Hp) : Hp := fun i => if i < m then f i else g i
theorem mix_at {m i : Nat} (h : i < m) (f g : Hp) : mix m f g i = f i := by simp [mix, h]
theorem mix_ge {m i : Nat} (h : m ≤ i) (f g : Hp) : mix m f g i = g i := by
  have : ¬ i < m := by omega
  simp [mix, this]
theorem low_mix {base m : Nat} (h : base ≤ m) (f g : Hp) : low base (mix m f g) = low base f := by
  funext i
  simp only [low, mix]
  by_cases h1 : i < base
  · have : i < m := by omega
    simp [h1, this]
  · simp [h1]
theorem mix_self (m : Nat) (f : Hp) : mix m f f = f := by
  funext i
  simp [mix]
theorem mix_of {m : Nat} {f g : Hp} (h : ∀ i, i < m → g i = f i) : g = mix m f g := by
  funext i
  unfold mix
  by_cases hi : i < m
  · simp [hi, h i hi]
  · simp [hi]
theorem upd_ne {α : Type} {i k : Nat} (h : i ≠ k) (f : Nat → α) (x : α) : upd f k x i = f i := by simp [upd, h]
theorem upd_eq {α : Type} (f : Nat → α) (k : Nat) (x : α) : upd f k x k = x := by simp [upd]

theorem d_num (ns : List Int) (hc : Code ns) (xs : List Int) (hx : 0 < xs.length) (p : Nat) (hp : p ≤ 2 ^ 40) :
    ∃ x, x ∈ xs ∧ ∀ (D : Nat) (hD : 2 ≤ D) (h : Hp) (m b bl c : Nat) (ex : Bool) (hb : b < m) (hbl : ¬ bl = b) (hh : h b = rdB ns p) (hl : h bl = some ⟨t_int, xs.map intC, true, false⟩), dcl pr D f_spec_l10Rd_num [.ptr b 0 0, .ref t_int bl 0 xs.length c ex] h m = some ([.n x], upd h b (rdB ns (p + 1)), m) := by
  obtain ⟨k, hk, he⟩ := d_pick ns hc xs.length p hp
  have hk2 := hk.1 (by omega)
  obtain ⟨j, rfl⟩ : ∃ j : Nat, k = (j : Int) := ⟨k.toNat, by omega⟩
  have hj : j < xs.length := by omega
  have hg : xs[j]? = some xs[j] := List.getElem?_eq_getElem hj
  refine ⟨xs[j], List.getElem_mem hj, fun D hD h m b bl c ex hb hbl hh hl => ?_⟩
  obtain ⟨D, rfl, hd⟩ := pred_of hD
  have hr := map_at (f := intC) hg
  have e := he D hd h m b hb hh
  rw [v_spec_l10Rd_num]
  simp only [c_spec_l10Rd_num, go_sem, Nat.reduceEqDiff, Nat.reduceAdd, reduceIte, reduceCtorEq, Nat.reduceLeDiff, Nat.reduceLT, e, hj, hl, hbl, hr]
end Go.Vm.T
end

section
set_option linter.unusedVariables false
set_option linter.unusedSimpArgs false
namespace Go.Vm.T
abbrev strC (s : ByteArray) : List A := [.s s]
theorem d_of (ns : List Int) (hc : Code ns) (xs : List ByteArray) (hx : 0 < xs.length) (p : Nat) (hp : p ≤ 2 ^ 40) :
    ∃ x, x ∈ xs ∧ ∀ (D : Nat) (hD : 2 ≤ D) (h : Hp) (m b bl c : Nat) (ex : Bool) (hb : b < m) (hbl : ¬ bl = b) (hh : h b = rdB ns p) (hl : h bl = some ⟨t_string, xs.map strC, true, false⟩), dcl pr D f_spec_l10Rd_of [.ptr b 0 0, .ref t_string bl 0 xs.length c ex] h m = some ([.s x], upd h b (rdB ns (p + 1)), m) := by
  obtain ⟨k, hk, he⟩ := d_pick ns hc xs.length p hp
  have hk2 := hk.1 (by omega)
  obtain ⟨j, rfl⟩ : ∃ j : Nat, k = (j : Int) := ⟨k.toNat, by omega⟩
  have hj : j < xs.length := by omega
  have hg : xs[j]? = some xs[j] := List.getElem?_eq_getElem hj
  refine ⟨xs[j], List.getElem_mem hj, fun D hD h m b bl c ex hb hbl hh hl => ?_⟩
  obtain ⟨D, rfl, hd⟩ := pred_of hD
  have hr := map_at (f := strC) hg
  have e := he D hd h m b hb hh
  rw [v_spec_l10Rd_of]
  simp only [c_spec_l10Rd_of, go_sem, Nat.reduceEqDiff, Nat.reduceAdd, reduceIte, reduceCtorEq, Nat.reduceLeDiff, Nat.reduceLT, e, hj, hl, hbl, hr]

abbrev l1Nums : List Int := [0, 1, 2, 3, -1, 7, 999, -999]
abbrev l1Txts : List ByteArray := [⟨#[]⟩, ⟨#[97]⟩, ⟨#[98]⟩, ⟨#[97, 98]⟩, ⟨#[49, 50]⟩, ⟨#[45, 53]⟩, ⟨#[48, 48, 55]⟩, ⟨#[122, 122, 122, 122]⟩, ⟨#[51]⟩]

theorem fin {m k : Nat} {r : List A} {H f : Hp} (hH : ∀ i, i < m → H i = f i) : some (r, H, k) = some (r, mix m f H, k) := by rw [← mix_of hH]
/-- A draw: what it yields, whatever stands about it. -/
def Draws (ns : List Int) (p k f : Nat) (xs : List A) (rs : List A) (p' g : Nat) (G : Hp → Nat → Nat → Hp) : Prop :=
  ∀ (D : Nat) (_ : k + 1 ≤ D) (h : Hp) (m b : Nat) (_ : b < m) (_ : h b = rdB ns p), dcl pr D f (.ptr b 0 0 :: xs) h m = some (rs, mix m (upd h b (rdB ns p')) (G h m b), m + g)
theorem draws_of {ns : List Int} {p k f : Nat} {xs rs : List A} {p' g : Nat}
    (H : ∀ (h : Hp) (m b : Nat), b < m → h b = rdB ns p → ∃ G, ∀ (d : Nat), k ≤ d → dcl pr (d + 1) f (.ptr b 0 0 :: xs) h m = some (rs, mix m (upd h b (rdB ns p')) G, m + g)) : ∃ G, Draws ns p k f xs rs p' g G := by
  classical
  refine ⟨fun h m b => if hc : b < m ∧ h b = rdB ns p then Classical.choose (H h m b hc.1 hc.2) else h, fun D hD h m b hb hh => ?_⟩
  have hc : b < m ∧ h b = rdB ns p := ⟨hb, hh⟩
  obtain ⟨d, rfl, hd⟩ := pred_of hD
  simp only [dif_pos hc]
  exact Classical.choose_spec (H h m b hb hh) d hd
theorem d_l1Some (ns : List Int) (hc : Code ns) (kind : Int) (p : Nat) (hp : p + 2 ≤ 2 ^ 40) :
    ∃ (v : Val) (p' g : Nat) (G : Hp → Nat → Nat → Hp), v.t.size ≤ 4 ∧ p' ≤ p + 2 ∧ Draws ns p 2 f_spec_l1Some [.n kind] [.agg v.c] p' g G := by
  obtain ⟨x, hx, ex⟩ := d_pick ns hc 6 p (by omega)
  by_cases h0 : x = 0 ∨ kind = 0
  · obtain ⟨G, hG⟩ := draws_of (ns := ns) (p := p) (k := 2) (f := f_spec_l1Some) (xs := [.n kind]) (rs := [.agg (⟨0, 0, ⟨#[]⟩⟩ : Val).c]) (p' := p + 1) (g := 1) (fun h m b hb hh => by
      have hbm : ¬ b = m := by omega
      have hmb : ¬ m = b := by omega
      have hb1 : b < m + 1 := by omega
      refine ⟨?G1, fun D hD => ?_⟩
      rotate_left
      · rw [v_spec_l1Some]
        have hq : (decide (x = 0) || decide (kind = 0)) = true := by rcases h0 with h | h <;> simp [h]
        simp only [c_spec_l1Some, go_sem, Nat.reduceEqDiff, Nat.reduceAdd, reduceIte, reduceCtorEq, Nat.reduceLeDiff, Nat.reduceLT, ex D (show 1 ≤ D by omega), hbm, hmb, hb1, hh, hq]
        refine fin (fun i hi => ?_)
        have h1 : ¬ i = m := by omega
        simp only [upd_apply, h1, if_false])
    exact ⟨_, _, _, G, Nat.zero_le _, by omega, hG⟩
  · have h0' : ¬ x = 0 ∧ ¬ kind = 0 := not_or.1 h0
    have q1 := eq_false h0'.1
    have q2 := eq_false h0'.2
    by_cases hk : kind = 1
    · obtain ⟨y, hy, ey⟩ := d_num ns hc l1Nums (by decide) (p + 1) (by omega)
      obtain ⟨G, hG⟩ := draws_of (ns := ns) (p := p) (k := 2) (f := f_spec_l1Some) (xs := [.n kind]) (rs := [.agg (⟨kind, y, ⟨#[]⟩⟩ : Val).c]) (p' := p + 2) (g := 3) (fun h m b hb hh => by
        have hbm : ¬ b = m := by omega
        have hmb : ¬ m = b := by omega
        have hb1 : b < m + 1 := by omega
        have hbm1 : ¬ b = m + 1 := by omega
        have hmb1 : ¬ m + 1 = b := by omega
        have hb2 : b < m + 1 + 1 := by omega
        have hmm : ¬ m = m + 1 := by omega
        have hmm' : ¬ m + 1 = m := by omega
        refine ⟨?G2, fun D hD => ?_⟩
        rotate_left
        · rw [v_spec_l1Some]
          have hk1 := eq_true hk
          have ey1 := fun h m b bl => ey D (show 2 ≤ D by omega) h m b bl 8 true
          simp only [List.length_cons, List.length_nil] at ey1
          simp only [c_spec_l1Some, go_sem, Nat.reduceEqDiff, Nat.reduceAdd, reduceIte, reduceCtorEq, Nat.reduceLeDiff, Nat.reduceLT, ex D (show 1 ≤ D by omega), ey1, hbm, hmb, hb1, hbm1, hmb1, hb2, hmm, hmm', hh, q1, q2, hk1]
          refine fin (fun i hi => ?_)
          have h1 : ¬ i = m := by omega
          have h2 : ¬ i = m + 1 := by omega
          by_cases h3 : i = b <;> simp only [upd_apply, h1, h2, h3, hbm, hbm1, if_false, if_true])
      exact ⟨_, _, _, G, Nat.zero_le _, by omega, hG⟩
    · have q3 := eq_false hk
      obtain ⟨y, hy, ey⟩ := d_of ns hc l1Txts (by decide) (p + 1) (by omega)
      obtain ⟨G, hG⟩ := draws_of (ns := ns) (p := p) (k := 2) (f := f_spec_l1Some) (xs := [.n kind]) (rs := [.agg (⟨kind, 0, y⟩ : Val).c]) (p' := p + 2) (g := 3) (fun h m b hb hh => by
        have hbm : ¬ b = m := by omega
        have hmb : ¬ m = b := by omega
        have hb1 : b < m + 1 := by omega
        have hbm1 : ¬ b = m + 1 := by omega
        have hmb1 : ¬ m + 1 = b := by omega
        have hb2 : b < m + 1 + 1 := by omega
        have hmm : ¬ m = m + 1 := by omega
        have hmm' : ¬ m + 1 = m := by omega
        refine ⟨?G3, fun D hD => ?_⟩
        rotate_left
        · rw [v_spec_l1Some]
          have ey1 := fun h m b bl => ey D (show 2 ≤ D by omega) h m b bl 9 true
          simp only [List.length_cons, List.length_nil] at ey1
          simp only [c_spec_l1Some, go_sem, Nat.reduceEqDiff, Nat.reduceAdd, reduceIte, reduceCtorEq, Nat.reduceLeDiff, Nat.reduceLT, ex D (show 1 ≤ D by omega), ey1, hbm, hmb, hb1, hbm1, hmb1, hb2, hmm, hmm', hh, q1, q2, q3]
          refine fin (fun i hi => ?_)
          have h1 : ¬ i = m := by omega
          have h2 : ¬ i = m + 1 := by omega
          by_cases h3 : i = b <;> simp only [upd_apply, h1, h2, h3, hbm, hbm1, if_false, if_true])
      refine ⟨_, _, _, G, ?_, by omega, hG⟩
      have : ∀ t ∈ l1Txts, t.size ≤ 4 := by decide
      exact this y hy
end Go.Vm.T
end

section
set_option linter.unusedVariables false
set_option linter.unusedSimpArgs false
namespace Go.Vm.T
abbrev bentK : List Int := [0, 3, -1, 1, 2]
abbrev bentN : List Int := [1000, -1000, 5, 9223372036854775807]
abbrev bentT : List ByteArray := [⟨#[97, 98, 99, 100, 101]⟩, ⟨#[65]⟩, ⟨#[113]⟩, ⟨#[39]⟩]
theorem d_l1Bent (ns : List Int) (hc : Code ns) (v : Val) (hv : v.t.size ≤ 5) (p : Nat) (hp : p + 2 ≤ 2 ^ 40) :
    ∃ (v' : Val) (p' g : Nat) (G : Hp → Nat → Nat → Hp), v'.t.size ≤ 5 ∧ p' ≤ p + 2 ∧ Draws ns p 2 f_spec_l1Bent [.agg v.c] [.agg v'.c] p' g G := by
  obtain ⟨x, hx, ex⟩ := d_pick ns hc 32 p (by omega)
  by_cases h0 : x = 0
  · obtain ⟨y, hy, ey⟩ := d_num ns hc bentK (by decide) (p + 1) (by omega)
    obtain ⟨G, hG⟩ := draws_of (ns := ns) (p := p) (k := 2) (f := f_spec_l1Bent) (xs := [.agg v.c]) (rs := [.agg (⟨y, v.n, v.t⟩ : Val).c]) (p' := p + 2) (g := 4) (fun h m b hb hh => by
      have hbm : ¬ b = m := by omega
      have hmb : ¬ m = b := by omega
      have hbm1 : ¬ b = m + 1 := by omega
      have hmb1 : ¬ m + 1 = b := by omega
      have hbm2 : ¬ b = m + 1 + 1 := by omega
      have hmb2 : ¬ m + 1 + 1 = b := by omega
      have hbm2' : ¬ b = m + 2 := by omega
      have hmb2' : ¬ m + 2 = b := by omega
      have hb2 : b < m + 2 := by omega
      have hb3 : b < m + 2 + 1 := by omega
      have m1 : ¬ m = m + 1 := by omega
      have m2 : ¬ m + 1 = m := by omega
      have m3 : ¬ m = m + 2 := by omega
      have m4 : ¬ m + 2 = m := by omega
      have m5 : ¬ m + 1 = m + 2 := by omega
      have m6 : ¬ m + 2 = m + 1 := by omega
      refine ⟨?G1, fun D hD => ?_⟩
      rotate_left
      · rw [v_spec_l1Bent]
        have q0 := eq_true h0
        have ey1 := fun h m b bl => ey D (show 2 ≤ D by omega) h m b bl 5 true
        simp only [List.length_cons, List.length_nil] at ey1
        simp only [c_spec_l1Bent, go_sem, Nat.reduceEqDiff, Nat.reduceAdd, reduceIte, reduceCtorEq, Nat.reduceLeDiff, Nat.reduceLT, ex D (show 1 ≤ D by omega), ey1, hbm, hmb, hbm1, hmb1, hbm2', hmb2', hb2, hb3, m1, m2, m3, m4, m5, m6, hh, q0]
        refine fin (fun i hi => ?_)
        have h1 : ¬ i = m := by omega
        have h2 : ¬ i = m + 1 := by omega
        have h4 : ¬ i = m + 2 := by omega
        by_cases h3 : i = b <;> simp only [upd_apply, h1, h2, h3, h4, hbm, hbm1, hbm2', if_false, if_true])
    exact ⟨⟨y, v.n, v.t⟩, p + 2, 4, G, hv, by omega, hG⟩
  · have q0 := eq_false h0
    by_cases h1 : x = 1
    · obtain ⟨y, hy, ey⟩ := d_num ns hc bentN (by decide) (p + 1) (by omega)
      obtain ⟨G, hG⟩ := draws_of (ns := ns) (p := p) (k := 2) (f := f_spec_l1Bent) (xs := [.agg v.c]) (rs := [.agg (⟨v.k, y, v.t⟩ : Val).c]) (p' := p + 2) (g := 4) (fun h m b hb hh => by
        have hbm : ¬ b = m := by omega
        have hmb : ¬ m = b := by omega
        have hbm1 : ¬ b = m + 1 := by omega
        have hmb1 : ¬ m + 1 = b := by omega
        have hbm2' : ¬ b = m + 2 := by omega
        have hmb2' : ¬ m + 2 = b := by omega
        have hb2 : b < m + 2 := by omega
        have hb3 : b < m + 2 + 1 := by omega
        have m1 : ¬ m = m + 1 := by omega
        have m2 : ¬ m + 1 = m := by omega
        have m3 : ¬ m = m + 2 := by omega
        have m4 : ¬ m + 2 = m := by omega
        have m5 : ¬ m + 1 = m + 2 := by omega
        have m6 : ¬ m + 2 = m + 1 := by omega
        refine ⟨?G2, fun D hD => ?_⟩
        rotate_left
        · rw [v_spec_l1Bent]
          have q1 := eq_true h1
          have ey1 := fun h m b bl => ey D (show 2 ≤ D by omega) h m b bl 4 true
          simp only [List.length_cons, List.length_nil] at ey1
          simp only [c_spec_l1Bent, go_sem, Nat.reduceEqDiff, Nat.reduceAdd, reduceIte, reduceCtorEq, Nat.reduceLeDiff, Nat.reduceLT, ex D (show 1 ≤ D by omega), ey1, hbm, hmb, hbm1, hmb1, hbm2', hmb2', hb2, hb3, m1, m2, m3, m4, m5, m6, hh, q0, q1]
          refine fin (fun i hi => ?_)
          have h1 : ¬ i = m := by omega
          have h2 : ¬ i = m + 1 := by omega
          have h4 : ¬ i = m + 2 := by omega
          by_cases h3 : i = b <;> simp only [upd_apply, h1, h2, h3, h4, hbm, hbm1, hbm2', if_false, if_true])
      exact ⟨⟨v.k, y, v.t⟩, p + 2, 4, G, hv, by omega, hG⟩
    · have q1 := eq_false h1
      by_cases h2 : x = 2
      · obtain ⟨y, hy, ey⟩ := d_of ns hc bentT (by decide) (p + 1) (by omega)
        obtain ⟨G, hG⟩ := draws_of (ns := ns) (p := p) (k := 2) (f := f_spec_l1Bent) (xs := [.agg v.c]) (rs := [.agg (⟨v.k, v.n, y⟩ : Val).c]) (p' := p + 2) (g := 4) (fun h m b hb hh => by
          have hbm : ¬ b = m := by omega
          have hmb : ¬ m = b := by omega
          have hbm1 : ¬ b = m + 1 := by omega
          have hmb1 : ¬ m + 1 = b := by omega
          have hbm2' : ¬ b = m + 2 := by omega
          have hmb2' : ¬ m + 2 = b := by omega
          have hb2 : b < m + 2 := by omega
          have hb3 : b < m + 2 + 1 := by omega
          have m1 : ¬ m = m + 1 := by omega
          have m2 : ¬ m + 1 = m := by omega
          have m3 : ¬ m = m + 2 := by omega
          have m4 : ¬ m + 2 = m := by omega
          have m5 : ¬ m + 1 = m + 2 := by omega
          have m6 : ¬ m + 2 = m + 1 := by omega
          refine ⟨?G3, fun D hD => ?_⟩
          rotate_left
          · rw [v_spec_l1Bent]
            have q2 := eq_true h2
            have ey1 := fun h m b bl => ey D (show 2 ≤ D by omega) h m b bl 4 true
            simp only [List.length_cons, List.length_nil] at ey1
            simp only [c_spec_l1Bent, go_sem, Nat.reduceEqDiff, Nat.reduceAdd, reduceIte, reduceCtorEq, Nat.reduceLeDiff, Nat.reduceLT, ex D (show 1 ≤ D by omega), ey1, hbm, hmb, hbm1, hmb1, hbm2', hmb2', hb2, hb3, m1, m2, m3, m4, m5, m6, hh, q0, q1, q2]
            refine fin (fun i hi => ?_)
            have h1 : ¬ i = m := by omega
            have h2 : ¬ i = m + 1 := by omega
            have h4 : ¬ i = m + 2 := by omega
            by_cases h3 : i = b <;> simp only [upd_apply, h1, h2, h3, h4, hbm, hbm1, hbm2', if_false, if_true])
        refine ⟨⟨v.k, v.n, y⟩, p + 2, 4, G, ?_, by omega, hG⟩
        have : ∀ t ∈ bentT, t.size ≤ 5 := by decide
        exact this y hy
      · have q2 := eq_false h2
        obtain ⟨G, hG⟩ := draws_of (ns := ns) (p := p) (k := 2) (f := f_spec_l1Bent) (xs := [.agg v.c]) (rs := [.agg v.c]) (p' := p + 1) (g := 2) (fun h m b hb hh => by
          have hbm : ¬ b = m := by omega
          have hmb : ¬ m = b := by omega
          have hbm1 : ¬ b = m + 1 := by omega
          have hmb1 : ¬ m + 1 = b := by omega
          have hb2 : b < m + 2 := by omega
          have m1 : ¬ m = m + 1 := by omega
          have m2 : ¬ m + 1 = m := by omega
          refine ⟨?G4, fun D hD => ?_⟩
          rotate_left
          · rw [v_spec_l1Bent]
            simp only [c_spec_l1Bent, go_sem, Nat.reduceEqDiff, Nat.reduceAdd, reduceIte, reduceCtorEq, Nat.reduceLeDiff, Nat.reduceLT, ex D (show 1 ≤ D by omega), hbm, hmb, hbm1, hmb1, hb2, m1, m2, hh, q0, q1, q2]
            refine fin (fun i hi => ?_)
            have h1 : ¬ i = m := by omega
            have h2 : ¬ i = m + 1 := by omega
            by_cases h3 : i = b <;> simp only [upd_apply, h1, h2, h3, hbm, hbm1, if_false, if_true])
        exact ⟨v, p + 1, 2, G, hv, by omega, hG⟩

theorem d_l1Draw (ns : List Int) (hc : Code ns) (p : Nat) (hp : p + 5 ≤ 2 ^ 40) :
    ∃ (v : Val) (p' g : Nat) (G : Hp → Nat → Nat → Hp), v.t.size ≤ 5 ∧ p' ≤ p + 5 ∧ Draws ns p 3 f_spec_l1Draw [] [.agg v.c] p' g G := by
  obtain ⟨x, hx, ex⟩ := d_pick ns hc 3 p (by omega)
  obtain ⟨v, p1, g1, G1, hv, hp1, e1⟩ := d_l1Some ns hc x (p + 1) (by omega)
  obtain ⟨u, p2, g2, G2, hu, hp2, e2⟩ := d_l1Bent ns hc v (by omega) p1 (by omega)
  obtain ⟨G, hG⟩ := draws_of (ns := ns) (p := p) (k := 3) (f := f_spec_l1Draw) (xs := []) (rs := [.agg u.c]) (p' := p2) (g := 1 + g1 + g2) (fun h m b hb hh => by
    have hbm : ¬ b = m := by omega
    have hmb : ¬ m = b := by omega
    have hb1 : b < m + 1 := by omega
    have hb2 : b < m + 1 + g1 := by omega
    have n1 : m < m + 1 := by omega
    have n2 : m < m + 1 + g1 := by omega
    refine ⟨?G1, fun D hD => ?_⟩
    rotate_left
    · rw [v_spec_l1Draw, show m + (1 + g1 + g2) = m + 1 + g1 + g2 by omega]
      simp only [c_spec_l1Draw, go_sem, Nat.reduceEqDiff, Nat.reduceAdd, reduceIte, reduceCtorEq, Nat.reduceLeDiff, Nat.reduceLT, ex D (show 1 ≤ D by omega), e1 D (show 3 ≤ D by omega), e2 D (show 3 ≤ D by omega), hbm, hmb, hb1, hb2, n1, n2, hh, mix_at]
      refine fin (fun i hi => ?_)
      have h1 : ¬ i = m := by omega
      have h5 : i < m + 1 := by omega
      have h6 : i < m + 1 + g1 := by omega
      by_cases h3 : i = b
      · subst h3
        simp only [upd_apply, mix_at, h1, h5, h6, if_false, if_true]
      · simp only [upd_apply, mix_at, h1, h3, h5, h6, if_false, if_true])
  exact ⟨u, p2, _, G, hu, by omega, hG⟩
end Go.Vm.T
end

section
set_option linter.unusedVariables false
set_option linter.unusedSimpArgs false
namespace Go.Vm.T

theorem d_l10Open {D : Nat} (hD : 1 ≤ D) (ns : List Int) (hl : ns.length ≤ maxLen) (h : Hp) (m : Nat) :
    dcl pr D f_spec_l10Open [.lit t_uint8 (ns.map u8C)] h m = some ([.ptr (m + 1) 0 0], upd (upd h m (some ⟨t_uint8, [], true, false⟩)) (m + 1) (rdB (ns.take 2000) 0), m + 2) := by
  obtain ⟨D, rfl, hd⟩ := pred_of hD
  rw [v_spec_l10Open]
  by_cases hn : (2000 : Int) < (ns.length : Int)
  · have h1 : 2000 ≤ ns.length := by omega
    have h2 : (2000 : Int).toNat = 2000 := rfl
    have h3 : (0 : Int) ≤ 2000 := by decide
    simp only [c_spec_l10Open, go_sem, Nat.reduceEqDiff, Nat.reduceAdd, reduceIte, reduceCtorEq, Nat.reduceLeDiff, Nat.reduceLT, List.length_map, hn, h1, h2, h3, Nat.zero_le, Nat.le_refl]
    rw [← List.map_take]
    rfl
  · have h1 : ns.take 2000 = ns := List.take_of_length_le (by omega)
    rw [h1]
    simp only [c_spec_l10Open, go_sem, Nat.reduceEqDiff, Nat.reduceAdd, reduceIte, reduceCtorEq, Nat.reduceLeDiff, Nat.reduceLT, List.length_map, hn]
    rfl

/-! ### a list with one more -/
def putG (e : Ent) : Nat → Unit → Ent → Unit ⊕ Nat := fun i _ x => bif entLess x e then .inl () else .inr i
def putK (e : Ent) (es : List Ent) : Nat := match runI (putG e) 0 () es with
  | .inl _ => es.length
  | .inr i => i
def putL (e : Ent) (es : List Ent) : List Ent := es.take (putK e es) ++ [e] ++ es.drop (putK e es)
theorem put_le (e : Ent) : ∀ (es : List Ent) (i k : Nat), runI (putG e) i () es = .inr k → i ≤ k ∧ k < i + es.length
  | [], i, k, h => nomatch h
  | x :: es, i, k, h => by
    unfold runI putG at h
    cases hx : entLess x e with
    | false =>
      simp [hx] at h
      subst h
      simp
    | true =>
      simp only [hx, cond_true] at h
      have := put_le e es (i + 1) k h
      simp only [List.length_cons]
      omega
theorem putK_le (e : Ent) (es : List Ent) : putK e es ≤ es.length := by
  unfold putK
  split
  · exact Nat.le_refl _
  · rename_i i h
    have := put_le e es 0 i h
    omega
theorem lp_l8Put {D : Nat} (hD : 2 ≤ D) (e : Ent) (es : List Ent) (hl : es.length ≤ big) :
    Ended (loopN (exec ⟨den pr D, dcl pr D⟩ b_spec_l8Put_0) [0, 3, 5] rounds ⟨upd (upd (upd (fun _ => .bad) 0 (.lit t_impl_Entry (es.map Ent.c))) 3 (.ptr 0 0 0)) 5 (.n (0 : Nat)), upd (fun _ => none) 0 (some ⟨t_impl_Entry, [e.c], true, true⟩), 1, 0⟩) Unit Nat (runI (putG e) 0 () es)
      (fun _ o => ∃ σ', o = .exit 0 σ' ∧ σ'.s 0 = .lit t_impl_Entry (es.map Ent.c) ∧ σ'.s 3 = .ptr 0 0 0 ∧ σ'.s 5 = .n es.length ∧ σ'.h = upd (fun _ => none) 0 (some ⟨t_impl_Entry, [e.c], true, true⟩) ∧ σ'.n = 1 ∧ σ'.base = 0) (fun i o => ∃ σ', o = .exit 0 σ' ∧ σ'.s 0 = .lit t_impl_Entry (es.map Ent.c) ∧ σ'.s 3 = .ptr 0 0 0 ∧ σ'.s 5 = .n i ∧ σ'.h = upd (fun _ => none) 0 (some ⟨t_impl_Entry, [e.c], true, true⟩) ∧ σ'.n = 1 ∧ σ'.base = 0) := by
  refine loop_all es (fun i (_ : Unit) => ⟨upd (upd (upd (fun _ => .bad) 0 (.lit t_impl_Entry (es.map Ent.c))) 3 (.ptr 0 0 0)) 5 (.n i), upd (fun _ => none) 0 (some ⟨t_impl_Entry, [e.c], true, true⟩), 1, 0⟩) _ (fun _ _ => True) _ _ () trivial hl (fun i _ x K hc hlt hi => ?_) (fun _ K _ => ?_)
  · have hr := map_at (f := Ent.c) hc
    have hw := wrap_nat (n := i) (by unfold big at hl; omega)
    have hm := d_l8Less hD x e
    simp only [loopN, e_spec_l8Put_0, B_spec_l8Put_0, go_sem, Nat.reduceEqDiff, Nat.reduceAdd, reduceIte, reduceCtorEq, Nat.reduceLeDiff, Nat.reduceLT, List.length_map, hr, hlt, hw, hm, putG]
    cases entLess x e with
    | true => simp only [go_sem, Nat.reduceEqDiff, Nat.reduceAdd, reduceIte, reduceCtorEq, Nat.reduceLeDiff, Nat.reduceLT, hw]
    | false => simp only [go_sem, Nat.reduceEqDiff, Nat.reduceAdd, reduceIte, reduceCtorEq, Nat.reduceLeDiff, Nat.reduceLT]; exact ⟨_, rfl, _, rfl, rfl, rfl, rfl, rfl, rfl, rfl⟩
  · have hi : ¬ es.length < es.length := by omega
    have hr : (es.map Ent.c)[es.length]? = none := by simp
    simp only [loopN, e_spec_l8Put_0, B_spec_l8Put_0, go_sem, Nat.reduceEqDiff, Nat.reduceAdd, reduceIte, reduceCtorEq, Nat.reduceLeDiff, Nat.reduceLT, List.length_map, hi, hr]
    exact ⟨_, rfl, _, rfl, rfl, rfl, rfl, rfl, rfl, rfl⟩
theorem d_l8Put {D : Nat} (hD : 3 ≤ D) (e : Ent) (es : List Ent) (hl : es.length + 1 ≤ big) : den pr D f_spec_l8Put [.lit t_impl_Entry (es.map Ent.c), .agg e.c] = some [.olit t_impl_Entry ((putL e es).map Ent.c)] := by
  obtain ⟨D, rfl, hd⟩ := pred_of hD
  rw [u_spec_l8Put]
  obtain ⟨out, lo, lp⟩ := lp_l8Put hd e es (by omega)
  rw [show ((0 : Nat) : Int) = 0 from rfl] at lo
  have hk : ∃ σ', out = .exit 0 σ' ∧ σ'.s 0 = .lit t_impl_Entry (es.map Ent.c) ∧ σ'.s 3 = .ptr 0 0 0 ∧ σ'.s 5 = .n (putK e es) ∧ σ'.h = upd (fun _ => none) 0 (some ⟨t_impl_Entry, [e.c], true, true⟩) ∧ σ'.n = 1 ∧ σ'.base = 0 := by
    unfold putK
    cases hr : runI (putG e) 0 () es with
    | inl _ => rw [hr] at lp; exact lp
    | inr i => rw [hr] at lp; exact lp
  obtain ⟨σ', rfl, l1, l2, l3, l4, l5, l6⟩ := hk
  have hle := putK_le e es
  unfold putL
  generalize putK e es = k at *
  have e1 : es.length - k ≤ big := by omega
  have e2 : k + 1 + (es.length - k) ≤ big := by omega
  have e3 : k ≤ big := by omega
  have e4 : k + 1 ≤ big := by omega
  have e5 : min k es.length = k := by omega
  have e6 : ((es.map Ent.c).take k).take k = (es.map Ent.c).take k := by rw [List.take_take, Nat.min_self]
  have e7 : ((es.map Ent.c).drop k).take (es.length - k) = (es.map Ent.c).drop k := List.take_of_length_le (by simp)
  have e8 : ((es.map Ent.c).take k ++ [e.c]).take (k + 1) = (es.map Ent.c).take k ++ [e.c] := List.take_of_length_le (by simp; omega)
  have e9 : (es.take k ++ [e] ++ es.drop k).map Ent.c = (es.map Ent.c).take k ++ [e.c] ++ (es.map Ent.c).drop k := by simp
  have ea : ((3 : Nat) == 0) = false := rfl
  rw [e9]
  simp only [c_spec_l8Put, go_sem, Nat.reduceEqDiff, Nat.reduceAdd, reduceIte, reduceCtorEq, Nat.reduceLeDiff, Nat.reduceLT, lo, l1, l2, l3, l4, l5, l6, List.length_map, List.length_take, List.length_drop, List.length_append, hle, e1, e2, e3, e4, e5, e6, e7, e8, Nat.zero_le, Nat.le_refl, Nat.sub_zero, Option.isSome_none, Nat.min_self, take_map, ea]
end Go.Vm.T
end

section
set_option linter.unusedVariables false
set_option linter.unusedSimpArgs false
namespace Go.Vm.T

theorem low_ge {n b : Nat} (hb : ¬ b < n) (h : Hp) (x : Option Blk) : low n (upd h b x) = low n h := by
  funext i
  simp only [low, upd_apply]
  by_cases h1 : i < n
  · have : ¬ i = b := by omega
    simp [h1, this]
  · simp [h1]
structure Five (es : List Ent) : Prop where
  txt : ∀ e ∈ es, e.v.t.size ≤ 5
theorem Five.put {es : List Ent} (h : Five es) {e : Ent} (he : e.v.t.size ≤ 5) : Five (putL e es) := ⟨fun x hx => by
  unfold putL at hx
  rcases List.mem_append.1 hx with hx | hx
  · rcases List.mem_append.1 hx with hx | hx
    · exact h.txt x (List.mem_of_mem_take hx)
    · rcases List.mem_cons.1 hx with rfl | hx
      · exact he
      · cases hx
  · exact h.txt x (List.mem_of_mem_drop hx)⟩
theorem putL_len (e : Ent) (es : List Ent) : (putL e es).length = es.length + 1 := by
  have := putK_le e es
  unfold putL
  simp
  omega
abbrev l8Heap (h : Hp) (m b : Nat) (ns : List Int) (p : Nat) (es : List Ent) : Hp := upd (upd (upd (low m h) b (rdB ns p)) m (some ⟨t_impl_Entry, [zEnt], true, true⟩)) (m + 1) (some ⟨t_impl_Entry, es.map Ent.c, true, false⟩)

theorem lp_l8Some {D : Nat} (hD : 3 ≤ D) (ns : List Int) (hc : Code ns) (kind : Int) (h : Hp) (m b : Nat) (hb : b < m) : ∀ (r : Nat) (es : List Ent) (ex : Bool) (p K : Nat), Five es → es.length + r ≤ 100 → p + 3 * r ≤ 2 ^ 30 → r < K →
    ∃ es' ex' p', Five es' ∧ es'.length ≤ es.length + r ∧ p' ≤ p + 3 * r ∧ ∃ σ', loopN (exec ⟨den pr D, dcl pr D⟩ b_spec_l8Some_0) [0, 3, 4, 5, 6] K ⟨upd (upd (upd (upd (upd (fun _ => .bad) 0 (.ptr b 0 0)) 3 (.ptr m 0 0)) 4 (.ref t_impl_Entry (m + 1) 0 es.length es.length ex)) 5 (.n kind)) 6 (.n (r : Int)), l8Heap h m b ns p es, m + 2, m⟩ = some (.exit 0 σ') ∧ σ'.s 0 = .ptr b 0 0 ∧ σ'.s 3 = .ptr m 0 0 ∧ σ'.s 4 = .ref t_impl_Entry (m + 1) 0 es'.length es'.length ex' ∧ σ'.h = l8Heap h m b ns p' es' ∧ σ'.n = m + 2 ∧ σ'.base = m
  | 0, es, ex, p, K, hf, hl, hp, hK => by
    obtain ⟨K, rfl⟩ : ∃ j, K = j + 1 := ⟨K - 1, by omega⟩
    have hz : ¬ ((0 : Int) < ((0 : Nat) : Int)) := by decide
    refine ⟨es, ex, p, hf, by omega, by omega, ?_⟩
    simp only [loopN, e_spec_l8Some_0, B_spec_l8Some_0, go_sem, Nat.reduceEqDiff, Nat.reduceAdd, reduceIte, reduceCtorEq, Nat.reduceLeDiff, Nat.reduceLT, hz]
    exact ⟨_, rfl, rfl, rfl, rfl, rfl, rfl, rfl⟩
  | r + 1, es, ex, p, K, hf, hl, hp, hK => by
    obtain ⟨K, rfl⟩ : ∃ j, K = j + 1 := ⟨K - 1, by omega⟩
    have hz : (0 : Int) < ((r + 1 : Nat) : Int) := by omega
    have hw : IntKind.i64.wrap (((r + 1 : Nat) : Int) - 1) = (r : Int) := sub_one (by omega)
    obtain ⟨v, p1, g1, G1, hv, hp1, e1⟩ := d_l1Some ns hc kind p (by omega)
    obtain ⟨x, hx, ex2⟩ := d_pick ns hc 9 p1 (by omega)
    have hx9 := hx.1 (by decide)
    have hwx : IntKind.i64.wrap (1 + x) = 1 + x := wrap_i64 (by omega) (by omega)
    have e3 := d_l8At (show 1 ≤ D by omega) ⟨v, 1 + x⟩ es (by unfold big; omega)
    have e4 := d_l8Put (show 3 ≤ D by omega) ⟨v, 1 + x⟩ es (by unfold big; omega)
    have a1 : ¬ b = m := by omega
    have a2 : ¬ m = b := by omega
    have a3 : ¬ b = m + 1 := by omega
    have a4 : ¬ m + 1 = b := by omega
    have a5 : b < m + 2 + 1 := by omega
    have a6 : b < m + 2 + 1 + g1 := by omega
    have a6' : b < m + 2 + 1 + g1 + 1 := by omega
    have a8 : ¬ m = m + 1 := by omega
    have a9 : ¬ m + 1 = m := by omega
    have b7 : ¬ m + 1 < m := by omega
    have b8 : m < m + 2 + 1 := by omega
    have b9 : m + 1 < m + 2 + 1 := by omega
    have c1 : m ≤ m + 2 + 1 := by omega
    have c7 : ¬ m < m := by omega
    have d1 : ¬ b = m + 2 + 1 + g1 + 1 := by omega
    have d2 : ¬ m + 2 + 1 + g1 + 1 = b := by omega
    have d3 : ¬ m = m + 2 + 1 + g1 + 1 := by omega
    have d4 : ¬ m + 2 + 1 + g1 + 1 = m := by omega
    have d5 : ¬ m + 1 = m + 2 + 1 + g1 + 1 := by omega
    have d6 : ¬ m + 2 + 1 + g1 + 1 = m + 1 := by omega
    have d7 : ¬ m + 2 + 1 + g1 + 1 < m := by omega
    have kk1 : ¬ b = m + 2 + 1 + g1 + 2 := by omega
    have kk2 : ¬ m + 2 + 1 + g1 + 2 = b := by omega
    have kk3 : ¬ m = m + 2 + 1 + g1 + 2 := by omega
    have kk4 : ¬ m + 2 + 1 + g1 + 2 = m := by omega
    have kk5 : ¬ m + 1 = m + 2 + 1 + g1 + 2 := by omega
    have kk6 : ¬ m + 2 + 1 + g1 + 2 = m + 1 := by omega
    have kk7 : ¬ m + 2 + 1 + g1 + 2 < m := by omega
    have k1 : ¬ m + 2 + 1 + g1 + 1 = m + 2 + 1 + g1 + 2 := by omega
    have k2 : ¬ m + 2 + 1 + g1 + 2 = m + 2 + 1 + g1 + 1 := by omega
    by_cases hat : atI ⟨v, 1 + x⟩ es < 0
    · have hq := eq_true hat
      obtain ⟨es', ex', p', f1, f2, f3, σ', f4⟩ := lp_l8Some hD ns hc kind h m b hb r (putL ⟨v, 1 + x⟩ es) false (p1 + 1) K (hf.put (by simp only; omega)) (by rw [putL_len]; omega) (by omega) (by omega)
      rw [putL_len] at f2
      refine ⟨es', ex', p', f1, by omega, by omega, σ', ?_⟩
      rw [← f4.1]
      refine ⟨?_, f4.2⟩
      simp only [loopN, e_spec_l8Some_0, B_spec_l8Some_0, go_sem, Nat.reduceEqDiff, Nat.reduceAdd, reduceIte, reduceCtorEq, Nat.reduceLeDiff, Nat.reduceLT, hz, hw, e1 D (show 3 ≤ D by omega), ex2 D (show 1 ≤ D by omega), hwx, e3, e4, hq, a1, a2, a3, a4, a5, a6, a6', a8, a9, b7, b8, b9, c1, c7, d1, d2, d3, d4, d5, d6, d7, kk1, kk2, kk3, kk4, kk5, kk6, kk7, k1, k2, hb, mix_at, low_ge, low_upd, low_mix, low_low, upd_upd, rowsSl_ent, take_map, List.length_map, Nat.le_refl]
    · have hq := eq_false hat
      obtain ⟨es', ex', p', f1, f2, f3, σ', f4⟩ := lp_l8Some hD ns hc kind h m b hb r es ex (p1 + 1) K hf (by omega) (by omega) (by omega)
      refine ⟨es', ex', p', f1, by omega, by omega, σ', ?_⟩
      rw [← f4.1]
      refine ⟨?_, f4.2⟩
      simp only [loopN, e_spec_l8Some_0, B_spec_l8Some_0, go_sem, Nat.reduceEqDiff, Nat.reduceAdd, reduceIte, reduceCtorEq, Nat.reduceLeDiff, Nat.reduceLT, hz, hw, e1 D (show 3 ≤ D by omega), ex2 D (show 1 ≤ D by omega), hwx, e3, e4, hq, a1, a2, a3, a4, a5, a6, a6', a8, a9, b7, b8, b9, c1, c7, d1, d2, d3, d4, d5, d6, d7, kk1, kk2, kk3, kk4, kk5, kk6, kk7, k1, k2, hb, mix_at, low_ge, low_upd, low_mix, low_low, upd_upd, rowsSl_ent, take_map, List.length_map, Nat.le_refl]
end Go.Vm.T
end

section
set_option linter.unusedVariables false
set_option linter.unusedSimpArgs false
namespace Go.Vm.T

def DrawL (ns : List Int) (p k f : Nat) (es : List Ent) (ex : Bool) (rest : List A) (p' g : Nat) (G : Hp → Nat → Nat → Hp) : Prop :=
  ∀ (D : Nat) (_ : k + 1 ≤ D) (h : Hp) (m b : Nat) (_ : b < m) (_ : h b = rdB ns p), dcl pr D f [.ptr b 0 0] h m = some (.ref t_impl_Entry (m + 2) 0 es.length es.length ex :: rest, mix m (upd h b (rdB ns p')) (G h m b), m + g) ∧ G h m b (m + 2) = some ⟨t_impl_Entry, es.map Ent.c, true, false⟩
abbrev l8Ns : List Int := [4, 8, 12, 2, 0, 16]
abbrev l8Ids : List Int := [1, 2, 3, 60, 0, 61]

set_option maxHeartbeats 8000000 in
theorem l8Some_head {D : Nat} (hD : 4 ≤ D) (ns : List Int) (hc : Code ns) (p : Nat) (hp : p ≤ 2 ^ 29) (h : Hp) (m b : Nat) (hb : b < m) (hh : h b = rdB ns p) : ∃ (es : List Ent) (ex : Bool) (e : Ent) (p' g : Nat) (G : Hp), Five es ∧ es.length ≤ 16 ∧ e.v.t.size ≤ 5 ∧ p' ≤ p + 70 ∧ 4 ≤ g ∧
    dcl pr (D + 1) f_spec_l8Some [.ptr b 0 0] h m = some ([.ref t_impl_Entry (m + 1) 0 es.length es.length ex, .agg e.c], mix m (upd h b (rdB ns p')) G, m + g) ∧ G (m + 1) = some ⟨t_impl_Entry, es.map Ent.c, true, false⟩ := by
  rw [v_spec_l8Some]
  obtain ⟨x, hx, e1⟩ := d_pick ns hc 2 p (by omega)
  have hx2 := hx.1 (by decide)
  have hwx : IntKind.i64.wrap (1 + x) = 1 + x := wrap_i64 (by omega) (by omega)
  obtain ⟨y, hy, e2⟩ := d_num ns hc l8Ns (by decide) (p + 1) (by omega)
  have hy2 : 0 ≤ y ∧ y ≤ 16 := by
    have : ∀ t ∈ l8Ns, 0 ≤ t ∧ t ≤ 16 := by decide
    exact this y hy
  obtain ⟨r, rfl⟩ : ∃ r : Nat, y = (r : Int) := ⟨y.toNat, by omega⟩
  obtain ⟨es, ex, p3, f1, f2, f3, σ', lo, l1, l2, l3, l4, l5, l6⟩ := lp_l8Some (show 3 ≤ D by omega) ns hc (1 + x) h m b hb r [] true (p + 1 + 1) rounds ⟨fun e he => nomatch he⟩ (by simp; omega) (by omega) (by unfold rounds; omega)
  obtain ⟨v, p4, g1, G1, hv, hp4, e3⟩ := d_l1Draw ns hc p3 (by omega)
  obtain ⟨z, hz, e4⟩ := d_num ns hc l8Ids (by decide) p4 (by omega)
  have e4' := fun h m b bl => e4 D (show 2 ≤ D by omega) h m b bl 6 true
  simp only [List.length_cons, List.length_nil] at e4'
  have e2' := fun h m b bl => e2 D (show 2 ≤ D by omega) h m b bl 6 true
  simp only [List.length_cons, List.length_nil] at e2'
  rw [show ([] : List Ent).length = 0 from rfl] at lo
  have lo' := lo
  simp only [l8Heap, List.map_nil] at lo'
  have a1 : ¬ b = m := by omega
  have a2 : ¬ m = b := by omega
  have a3 : ¬ b = m + 1 := by omega
  have a4 : ¬ m + 1 = b := by omega
  have a5 : ¬ b = m + 2 := by omega
  have a6 : ¬ m + 2 = b := by omega
  have a7 : ¬ b = m + 3 := by omega
  have a8 : ¬ m + 3 = b := by omega
  have b1 : b < m + 2 := by omega
  have b2 : b < m + 3 := by omega
  have b3 : b < m + 3 + 1 := by omega
  have c1 : ¬ m = m + 1 := by omega
  have c2 : ¬ m + 1 = m := by omega
  have c3 : ¬ m + 1 = m + 2 := by omega
  have c4 : ¬ m + 2 = m + 1 := by omega
  have c5 : ¬ m + 1 = m + 3 := by omega
  have c6 : ¬ m + 3 = m + 1 := by omega
  have c7 : ¬ m + 2 = m + 3 := by omega
  have c8 : ¬ m + 3 = m + 2 := by omega
  have d1 : ¬ m + 1 < m := by omega
  have d2 : ¬ m + 2 < m := by omega
  have d3 : ¬ m + 3 < m := by omega
  have d4 : ¬ m < m := by omega
  have k0 : b < m + 2 + 2 := by omega
  have k0' : b < m + 2 + 2 + g1 := by omega
  have k0'' : b < m + 2 + 2 + g1 + 2 := by omega
  have kk : m < m + 2 + 2 := by omega
  have kk' : m + 1 < m + 2 + 2 := by omega
  have r1 : ¬ b = m + 2 + 2 + g1 := by omega
  have r2 : ¬ m + 2 + 2 + g1 = b := by omega
  have r3 : ¬ m = m + 2 + 2 + g1 := by omega
  have r4 : ¬ m + 2 + 2 + g1 = m := by omega
  have r5 : ¬ m + 1 = m + 2 + 2 + g1 := by omega
  have r6 : ¬ m + 2 + 2 + g1 = m + 1 := by omega
  have r7 : ¬ m + 2 + 2 + g1 < m := by omega
  have s1 : ¬ b = m + 2 + 2 + g1 + 2 + 1 := by omega
  have s2 : ¬ m + 2 + 2 + g1 + 2 + 1 = b := by omega
  have s3 : ¬ m = m + 2 + 2 + g1 + 2 + 1 := by omega
  have s4 : ¬ m + 2 + 2 + g1 + 2 + 1 = m := by omega
  have s5 : ¬ m + 1 = m + 2 + 2 + g1 + 2 + 1 := by omega
  have s6 : ¬ m + 2 + 2 + g1 + 2 + 1 = m + 1 := by omega
  have s7 : ¬ m + 2 + 2 + g1 + 2 + 1 < m := by omega
  have t1 : ¬ m + 2 + 2 + g1 = m + 2 + 2 + g1 + 2 + 1 := by omega
  have t2 : ¬ m + 2 + 2 + g1 + 2 + 1 = m + 2 + 2 + g1 := by omega
  have hl16 : es.length ≤ 16 := by simp at f2; omega
  by_cases hl0 : 0 < es.length
  · skip
    have hlz : (0 : Int) < (es.length : Int) := by omega
    obtain ⟨y1, hy1, e5⟩ := d_pick ns hc 3 (p4 + 1) (by omega)
    have hy1' := hy1.1 (by decide)
    have e5 := e5 D (show 1 ≤ D by omega)
    have u1 : b < m + 2 + 2 + g1 + 4 := by omega
    by_cases hy10 : 0 < y1
    · have q1 := eq_true hy10
      obtain ⟨y2, hy2b, e6⟩ := d_pick ns hc (es.length : Int) (p4 + 1 + 1) (by omega)
      have e6 := e6 D (show 1 ≤ D by omega)
      have hy2' := hy2b.1 (by omega)
      obtain ⟨j, rfl⟩ : ∃ j : Nat, y2 = (j : Int) := ⟨y2.toNat, by omega⟩
      have hj : j < es.length := by omega
      have hgj : es[j]? = some es[j] := List.getElem?_eq_getElem hj
      have hrj := map_at (f := Ent.c) hgj
      have hvj := f1.txt _ (List.getElem_mem hj)
      generalize es[j] = wj at *
      obtain ⟨y3, hy3, e7⟩ := d_pick ns hc 2 (p4 + 1 + 1 + 1) (by omega)
      have e7 := e7 D (show 1 ≤ D by omega)
      by_cases hy30 : y3 = 0
      · have q3 := eq_true hy30
        obtain ⟨y4, hy4, e8⟩ := d_pick ns hc 9 (p4 + 1 + 1 + 1 + 1) (by omega)
        have e8 := e8 D (show 1 ≤ D by omega)
        have hy4' := hy4.1 (by decide)
        have hw4 : IntKind.i64.wrap (10 + y4) = 10 + y4 := wrap_i64 (by omega) (by omega)
        by_cases hl1 : 1 < es.length
        · have hl1' : (1 : Int) < (es.length : Int) := by omega
          obtain ⟨y5, hy5, e9⟩ := d_pick ns hc 20 (p4 + 1 + 1 + 1 + 1 + 1) (by omega)
          have e9 := e9 D (show 1 ≤ D by omega)
          by_cases hy50 : y5 = 0
          · have q5 := eq_true hy50
            have hwl : IntKind.i64.wrap ((es.length : Int) - 1) = ((es.length - 1 : Nat) : Int) := by rw [wrap_i64 (by omega) (by omega)]; omega
            obtain ⟨y6, hy6, e10⟩ := d_pick ns hc ((es.length - 1 : Nat) : Int) (p4 + 1 + 1 + 1 + 1 + 1 + 1) (by omega)
            have e10 := e10 D (show 1 ≤ D by omega)
            have hy6' := hy6.1 (by omega)
            obtain ⟨kq, rfl⟩ : ∃ kq : Nat, y6 = (kq : Int) := ⟨y6.toNat, by omega⟩
            have hk1 : kq + 1 < es.length := by omega
            have hk0 : kq < es.length := by omega
            have hw6 : IntKind.i64.wrap (1 + (kq : Int)) = ((kq + 1 : Nat) : Int) := by rw [wrap_i64 (by omega) (by omega)]; omega
            have hw7 := sub_one (i := kq) (by omega)
            have hg0 : es[kq]? = some es[kq] := List.getElem?_eq_getElem hk0
            have hg1 : es[kq + 1]? = some es[kq + 1] := List.getElem?_eq_getElem hk1
            have hr0 := map_at (f := Ent.c) hg0
            have hr1 := map_at (f := Ent.c) hg1
            have hset : (es.map Ent.c).set (kq + 1) es[kq].c = (es.set (kq + 1) es[kq]).map Ent.c := by rw [List.map_set]
            have hfv : Five (es.set (kq + 1) es[kq]) := ⟨fun x hx => by
              rcases List.mem_or_eq_of_mem_set hx with hx | rfl
              · exact f1.txt x hx
              · exact f1.txt _ (List.getElem_mem hk0)⟩
            generalize es[kq] = w0 at *
            generalize es[kq + 1] = w1 at *
            refine ⟨es.set (kq + 1) w0, ex, ⟨wj.v, 10 + y4⟩, p4 + 1 + 1 + 1 + 1 + 1 + 2, 2 + 2 + g1 + 4, ?G2, hfv, by rw [List.length_set]; exact hl16, hvj, by omega, by omega, ?_, ?_⟩
            rotate_left
            · rw [show m + (2 + 2 + g1 + 4) = m + 2 + 2 + g1 + 4 by omega]
              simp only [c_spec_l8Some, go_sem, Nat.reduceEqDiff, Nat.reduceAdd, reduceIte, reduceCtorEq, Nat.reduceLeDiff, Nat.reduceLT, q1, e6, hj, hrj, e7, q3, e8, hw4, hlz, hl1', e5, u1, e9, q5, hwl, e10, hw6, hw7, hk1, hk0, hr0, hr1, hset, e1 D (show 1 ≤ D by omega), e2', hwx, hh, a1, a2, a3, a4, a5, a6, a7, a8, b1, b2, b3, c1, c2, c3, c4, c5, c6, c7, c8, d1, d2, d3, d4, hb, low_ge, low_upd, upd_upd, List.map_nil, lo', l1, l2, l3, l4, l5, l6, e3 D (show 4 ≤ D by omega), e4', mix_at, k0, k0', k0'', kk, kk', r1, r2, r3, r4, r5, r6, r7, s1, s2, s3, s4, s5, s6, s7, t1, t2, List.length_map, List.length_set, Nat.le_refl]
              refine fin (fun i hi => ?_)
              have i1 : ¬ i = m := by omega
              have i2 : ¬ i = m + 1 := by omega
              have i3 : ¬ i = m + 2 + 2 + g1 := by omega
              have i4 : ¬ i = m + 2 + 2 + g1 + 2 + 1 := by omega
              have i5 : i < m + 2 + 2 := by omega
              by_cases h3 : i = b
              · subst h3
                simp only [upd_apply, l8Heap, mix_at, low_at, i1, i2, i3, i4, i5, hi, if_true, if_false]
              · simp only [upd_apply, l8Heap, mix_at, low_at, i1, i2, i3, i4, i5, h3, hi, if_true, if_false]
            · simp only [upd_apply, l8Heap, mix_at, kk', a4, c2, r5, s5, if_true, if_false, hset]
          · have q5 := eq_false hy50
            refine ⟨es, ex, ⟨wj.v, 10 + y4⟩, p4 + 1 + 1 + 1 + 1 + 1 + 1, 2 + 2 + g1 + 4, ?G3, f1, hl16, hvj, by omega, by omega, ?_, ?_⟩
            rotate_left
            · rw [show m + (2 + 2 + g1 + 4) = m + 2 + 2 + g1 + 4 by omega]
              simp only [c_spec_l8Some, go_sem, Nat.reduceEqDiff, Nat.reduceAdd, reduceIte, reduceCtorEq, Nat.reduceLeDiff, Nat.reduceLT, q1, e6, hj, hrj, e7, q3, e8, hw4, hlz, hl1', e5, u1, e9, q5, e1 D (show 1 ≤ D by omega), e2', hwx, hh, a1, a2, a3, a4, a5, a6, a7, a8, b1, b2, b3, c1, c2, c3, c4, c5, c6, c7, c8, d1, d2, d3, d4, hb, low_ge, low_upd, upd_upd, List.map_nil, lo', l1, l2, l3, l4, l5, l6, e3 D (show 4 ≤ D by omega), e4', mix_at, k0, k0', k0'', kk, kk', r1, r2, r3, r4, r5, r6, r7, s1, s2, s3, s4, s5, s6, s7, t1, t2, List.length_map, List.length_set, Nat.le_refl]
              refine fin (fun i hi => ?_)
              have i1 : ¬ i = m := by omega
              have i2 : ¬ i = m + 1 := by omega
              have i3 : ¬ i = m + 2 + 2 + g1 := by omega
              have i4 : ¬ i = m + 2 + 2 + g1 + 2 + 1 := by omega
              have i5 : i < m + 2 + 2 := by omega
              by_cases h3 : i = b
              · subst h3
                simp only [upd_apply, l8Heap, mix_at, low_at, i1, i2, i3, i4, i5, hi, if_true, if_false]
              · simp only [upd_apply, l8Heap, mix_at, low_at, i1, i2, i3, i4, i5, h3, hi, if_true, if_false]
            · simp only [upd_apply, l8Heap, mix_at, kk', a4, c2, r5, s5, if_true, if_false]
        · have hl1' : ¬ ((1 : Int) < (es.length : Int)) := by omega
          refine ⟨es, ex, ⟨wj.v, 10 + y4⟩, p4 + 1 + 1 + 1 + 1 + 1, 2 + 2 + g1 + 4, ?G4, f1, hl16, hvj, by omega, by omega, ?_, ?_⟩
          rotate_left
          · rw [show m + (2 + 2 + g1 + 4) = m + 2 + 2 + g1 + 4 by omega]
            simp only [c_spec_l8Some, go_sem, Nat.reduceEqDiff, Nat.reduceAdd, reduceIte, reduceCtorEq, Nat.reduceLeDiff, Nat.reduceLT, q1, e6, hj, hrj, e7, q3, e8, hw4, hlz, hl1', e5, u1, e1 D (show 1 ≤ D by omega), e2', hwx, hh, a1, a2, a3, a4, a5, a6, a7, a8, b1, b2, b3, c1, c2, c3, c4, c5, c6, c7, c8, d1, d2, d3, d4, hb, low_ge, low_upd, upd_upd, List.map_nil, lo', l1, l2, l3, l4, l5, l6, e3 D (show 4 ≤ D by omega), e4', mix_at, k0, k0', k0'', kk, kk', r1, r2, r3, r4, r5, r6, r7, s1, s2, s3, s4, s5, s6, s7, t1, t2, List.length_map, List.length_set, Nat.le_refl]
            refine fin (fun i hi => ?_)
            have i1 : ¬ i = m := by omega
            have i2 : ¬ i = m + 1 := by omega
            have i3 : ¬ i = m + 2 + 2 + g1 := by omega
            have i4 : ¬ i = m + 2 + 2 + g1 + 2 + 1 := by omega
            have i5 : i < m + 2 + 2 := by omega
            by_cases h3 : i = b
            · subst h3
              simp only [upd_apply, l8Heap, mix_at, low_at, i1, i2, i3, i4, i5, hi, if_true, if_false]
            · simp only [upd_apply, l8Heap, mix_at, low_at, i1, i2, i3, i4, i5, h3, hi, if_true, if_false]
          · simp only [upd_apply, l8Heap, mix_at, kk', a4, c2, r5, s5, if_true, if_false]
      · have q3 := eq_false hy30
        by_cases hl1 : 1 < es.length
        · have hl1' : (1 : Int) < (es.length : Int) := by omega
          obtain ⟨y5, hy5, e9⟩ := d_pick ns hc 20 (p4 + 1 + 1 + 1 + 1) (by omega)
          have e9 := e9 D (show 1 ≤ D by omega)
          by_cases hy50 : y5 = 0
          · have q5 := eq_true hy50
            have hwl : IntKind.i64.wrap ((es.length : Int) - 1) = ((es.length - 1 : Nat) : Int) := by rw [wrap_i64 (by omega) (by omega)]; omega
            obtain ⟨y6, hy6, e10⟩ := d_pick ns hc ((es.length - 1 : Nat) : Int) (p4 + 1 + 1 + 1 + 1 + 1) (by omega)
            have e10 := e10 D (show 1 ≤ D by omega)
            have hy6' := hy6.1 (by omega)
            obtain ⟨kq, rfl⟩ : ∃ kq : Nat, y6 = (kq : Int) := ⟨y6.toNat, by omega⟩
            have hk1 : kq + 1 < es.length := by omega
            have hk0 : kq < es.length := by omega
            have hw6 : IntKind.i64.wrap (1 + (kq : Int)) = ((kq + 1 : Nat) : Int) := by rw [wrap_i64 (by omega) (by omega)]; omega
            have hw7 := sub_one (i := kq) (by omega)
            have hg0 : es[kq]? = some es[kq] := List.getElem?_eq_getElem hk0
            have hg1 : es[kq + 1]? = some es[kq + 1] := List.getElem?_eq_getElem hk1
            have hr0 := map_at (f := Ent.c) hg0
            have hr1 := map_at (f := Ent.c) hg1
            have hset : (es.map Ent.c).set (kq + 1) es[kq].c = (es.set (kq + 1) es[kq]).map Ent.c := by rw [List.map_set]
            have hfv : Five (es.set (kq + 1) es[kq]) := ⟨fun x hx => by
              rcases List.mem_or_eq_of_mem_set hx with hx | rfl
              · exact f1.txt x hx
              · exact f1.txt _ (List.getElem_mem hk0)⟩
            generalize es[kq] = w0 at *
            generalize es[kq + 1] = w1 at *
            refine ⟨es.set (kq + 1) w0, ex, wj, p4 + 1 + 1 + 1 + 1 + 2, 2 + 2 + g1 + 4, ?G5, hfv, by rw [List.length_set]; exact hl16, hvj, by omega, by omega, ?_, ?_⟩
            rotate_left
            · rw [show m + (2 + 2 + g1 + 4) = m + 2 + 2 + g1 + 4 by omega]
              simp only [c_spec_l8Some, go_sem, Nat.reduceEqDiff, Nat.reduceAdd, reduceIte, reduceCtorEq, Nat.reduceLeDiff, Nat.reduceLT, q1, e6, hj, hrj, e7, q3, hlz, hl1', e5, u1, e9, q5, hwl, e10, hw6, hw7, hk1, hk0, hr0, hr1, hset, e1 D (show 1 ≤ D by omega), e2', hwx, hh, a1, a2, a3, a4, a5, a6, a7, a8, b1, b2, b3, c1, c2, c3, c4, c5, c6, c7, c8, d1, d2, d3, d4, hb, low_ge, low_upd, upd_upd, List.map_nil, lo', l1, l2, l3, l4, l5, l6, e3 D (show 4 ≤ D by omega), e4', mix_at, k0, k0', k0'', kk, kk', r1, r2, r3, r4, r5, r6, r7, s1, s2, s3, s4, s5, s6, s7, t1, t2, List.length_map, List.length_set, Nat.le_refl]
              refine fin (fun i hi => ?_)
              have i1 : ¬ i = m := by omega
              have i2 : ¬ i = m + 1 := by omega
              have i3 : ¬ i = m + 2 + 2 + g1 := by omega
              have i4 : ¬ i = m + 2 + 2 + g1 + 2 + 1 := by omega
              have i5 : i < m + 2 + 2 := by omega
              by_cases h3 : i = b
              · subst h3
                simp only [upd_apply, l8Heap, mix_at, low_at, i1, i2, i3, i4, i5, hi, if_true, if_false]
              · simp only [upd_apply, l8Heap, mix_at, low_at, i1, i2, i3, i4, i5, h3, hi, if_true, if_false]
            · simp only [upd_apply, l8Heap, mix_at, kk', a4, c2, r5, s5, if_true, if_false, hset]
          · have q5 := eq_false hy50
            refine ⟨es, ex, wj, p4 + 1 + 1 + 1 + 1 + 1, 2 + 2 + g1 + 4, ?G6, f1, hl16, hvj, by omega, by omega, ?_, ?_⟩
            rotate_left
            · rw [show m + (2 + 2 + g1 + 4) = m + 2 + 2 + g1 + 4 by omega]
              simp only [c_spec_l8Some, go_sem, Nat.reduceEqDiff, Nat.reduceAdd, reduceIte, reduceCtorEq, Nat.reduceLeDiff, Nat.reduceLT, q1, e6, hj, hrj, e7, q3, hlz, hl1', e5, u1, e9, q5, e1 D (show 1 ≤ D by omega), e2', hwx, hh, a1, a2, a3, a4, a5, a6, a7, a8, b1, b2, b3, c1, c2, c3, c4, c5, c6, c7, c8, d1, d2, d3, d4, hb, low_ge, low_upd, upd_upd, List.map_nil, lo', l1, l2, l3, l4, l5, l6, e3 D (show 4 ≤ D by omega), e4', mix_at, k0, k0', k0'', kk, kk', r1, r2, r3, r4, r5, r6, r7, s1, s2, s3, s4, s5, s6, s7, t1, t2, List.length_map, List.length_set, Nat.le_refl]
              refine fin (fun i hi => ?_)
              have i1 : ¬ i = m := by omega
              have i2 : ¬ i = m + 1 := by omega
              have i3 : ¬ i = m + 2 + 2 + g1 := by omega
              have i4 : ¬ i = m + 2 + 2 + g1 + 2 + 1 := by omega
              have i5 : i < m + 2 + 2 := by omega
              by_cases h3 : i = b
              · subst h3
                simp only [upd_apply, l8Heap, mix_at, low_at, i1, i2, i3, i4, i5, hi, if_true, if_false]
              · simp only [upd_apply, l8Heap, mix_at, low_at, i1, i2, i3, i4, i5, h3, hi, if_true, if_false]
            · simp only [upd_apply, l8Heap, mix_at, kk', a4, c2, r5, s5, if_true, if_false]
        · have hl1' : ¬ ((1 : Int) < (es.length : Int)) := by omega
          refine ⟨es, ex, wj, p4 + 1 + 1 + 1 + 1, 2 + 2 + g1 + 4, ?G7, f1, hl16, hvj, by omega, by omega, ?_, ?_⟩
          rotate_left
          · rw [show m + (2 + 2 + g1 + 4) = m + 2 + 2 + g1 + 4 by omega]
            simp only [c_spec_l8Some, go_sem, Nat.reduceEqDiff, Nat.reduceAdd, reduceIte, reduceCtorEq, Nat.reduceLeDiff, Nat.reduceLT, q1, e6, hj, hrj, e7, q3, hlz, hl1', e5, u1, e1 D (show 1 ≤ D by omega), e2', hwx, hh, a1, a2, a3, a4, a5, a6, a7, a8, b1, b2, b3, c1, c2, c3, c4, c5, c6, c7, c8, d1, d2, d3, d4, hb, low_ge, low_upd, upd_upd, List.map_nil, lo', l1, l2, l3, l4, l5, l6, e3 D (show 4 ≤ D by omega), e4', mix_at, k0, k0', k0'', kk, kk', r1, r2, r3, r4, r5, r6, r7, s1, s2, s3, s4, s5, s6, s7, t1, t2, List.length_map, List.length_set, Nat.le_refl]
            refine fin (fun i hi => ?_)
            have i1 : ¬ i = m := by omega
            have i2 : ¬ i = m + 1 := by omega
            have i3 : ¬ i = m + 2 + 2 + g1 := by omega
            have i4 : ¬ i = m + 2 + 2 + g1 + 2 + 1 := by omega
            have i5 : i < m + 2 + 2 := by omega
            by_cases h3 : i = b
            · subst h3
              simp only [upd_apply, l8Heap, mix_at, low_at, i1, i2, i3, i4, i5, hi, if_true, if_false]
            · simp only [upd_apply, l8Heap, mix_at, low_at, i1, i2, i3, i4, i5, h3, hi, if_true, if_false]
          · simp only [upd_apply, l8Heap, mix_at, kk', a4, c2, r5, s5, if_true, if_false]
    · have q1 := eq_false hy10
      by_cases hl1 : 1 < es.length
      · have hl1' : (1 : Int) < (es.length : Int) := by omega
        obtain ⟨y5, hy5, e9⟩ := d_pick ns hc 20 (p4 + 1 + 1) (by omega)
        have e9 := e9 D (show 1 ≤ D by omega)
        by_cases hy50 : y5 = 0
        · have q5 := eq_true hy50
          have hwl : IntKind.i64.wrap ((es.length : Int) - 1) = ((es.length - 1 : Nat) : Int) := by rw [wrap_i64 (by omega) (by omega)]; omega
          obtain ⟨y6, hy6, e10⟩ := d_pick ns hc ((es.length - 1 : Nat) : Int) (p4 + 1 + 1 + 1) (by omega)
          have e10 := e10 D (show 1 ≤ D by omega)
          have hy6' := hy6.1 (by omega)
          obtain ⟨kq, rfl⟩ : ∃ kq : Nat, y6 = (kq : Int) := ⟨y6.toNat, by omega⟩
          have hk1 : kq + 1 < es.length := by omega
          have hk0 : kq < es.length := by omega
          have hw6 : IntKind.i64.wrap (1 + (kq : Int)) = ((kq + 1 : Nat) : Int) := by rw [wrap_i64 (by omega) (by omega)]; omega
          have hw7 := sub_one (i := kq) (by omega)
          have hg0 : es[kq]? = some es[kq] := List.getElem?_eq_getElem hk0
          have hg1 : es[kq + 1]? = some es[kq + 1] := List.getElem?_eq_getElem hk1
          have hr0 := map_at (f := Ent.c) hg0
          have hr1 := map_at (f := Ent.c) hg1
          have hset : (es.map Ent.c).set (kq + 1) es[kq].c = (es.set (kq + 1) es[kq]).map Ent.c := by rw [List.map_set]
          have hfv : Five (es.set (kq + 1) es[kq]) := ⟨fun x hx => by
            rcases List.mem_or_eq_of_mem_set hx with hx | rfl
            · exact f1.txt x hx
            · exact f1.txt _ (List.getElem_mem hk0)⟩
          generalize es[kq] = w0 at *
          generalize es[kq + 1] = w1 at *
          refine ⟨es.set (kq + 1) w0, ex, ⟨v, z⟩, p4 + 1 + 1 + 2, 2 + 2 + g1 + 4, ?G8, hfv, by rw [List.length_set]; exact hl16, hv, by omega, by omega, ?_, ?_⟩
          rotate_left
          · rw [show m + (2 + 2 + g1 + 4) = m + 2 + 2 + g1 + 4 by omega]
            simp only [c_spec_l8Some, go_sem, Nat.reduceEqDiff, Nat.reduceAdd, reduceIte, reduceCtorEq, Nat.reduceLeDiff, Nat.reduceLT, q1, hlz, hl1', e5, u1, e9, q5, hwl, e10, hw6, hw7, hk1, hk0, hr0, hr1, hset, e1 D (show 1 ≤ D by omega), e2', hwx, hh, a1, a2, a3, a4, a5, a6, a7, a8, b1, b2, b3, c1, c2, c3, c4, c5, c6, c7, c8, d1, d2, d3, d4, hb, low_ge, low_upd, upd_upd, List.map_nil, lo', l1, l2, l3, l4, l5, l6, e3 D (show 4 ≤ D by omega), e4', mix_at, k0, k0', k0'', kk, kk', r1, r2, r3, r4, r5, r6, r7, s1, s2, s3, s4, s5, s6, s7, t1, t2, List.length_map, List.length_set, Nat.le_refl]
            refine fin (fun i hi => ?_)
            have i1 : ¬ i = m := by omega
            have i2 : ¬ i = m + 1 := by omega
            have i3 : ¬ i = m + 2 + 2 + g1 := by omega
            have i4 : ¬ i = m + 2 + 2 + g1 + 2 + 1 := by omega
            have i5 : i < m + 2 + 2 := by omega
            by_cases h3 : i = b
            · subst h3
              simp only [upd_apply, l8Heap, mix_at, low_at, i1, i2, i3, i4, i5, hi, if_true, if_false]
            · simp only [upd_apply, l8Heap, mix_at, low_at, i1, i2, i3, i4, i5, h3, hi, if_true, if_false]
          · simp only [upd_apply, l8Heap, mix_at, kk', a4, c2, r5, s5, if_true, if_false, hset]
        · have q5 := eq_false hy50
          refine ⟨es, ex, ⟨v, z⟩, p4 + 1 + 1 + 1, 2 + 2 + g1 + 4, ?G9, f1, hl16, hv, by omega, by omega, ?_, ?_⟩
          rotate_left
          · rw [show m + (2 + 2 + g1 + 4) = m + 2 + 2 + g1 + 4 by omega]
            simp only [c_spec_l8Some, go_sem, Nat.reduceEqDiff, Nat.reduceAdd, reduceIte, reduceCtorEq, Nat.reduceLeDiff, Nat.reduceLT, q1, hlz, hl1', e5, u1, e9, q5, e1 D (show 1 ≤ D by omega), e2', hwx, hh, a1, a2, a3, a4, a5, a6, a7, a8, b1, b2, b3, c1, c2, c3, c4, c5, c6, c7, c8, d1, d2, d3, d4, hb, low_ge, low_upd, upd_upd, List.map_nil, lo', l1, l2, l3, l4, l5, l6, e3 D (show 4 ≤ D by omega), e4', mix_at, k0, k0', k0'', kk, kk', r1, r2, r3, r4, r5, r6, r7, s1, s2, s3, s4, s5, s6, s7, t1, t2, List.length_map, List.length_set, Nat.le_refl]
            refine fin (fun i hi => ?_)
            have i1 : ¬ i = m := by omega
            have i2 : ¬ i = m + 1 := by omega
            have i3 : ¬ i = m + 2 + 2 + g1 := by omega
            have i4 : ¬ i = m + 2 + 2 + g1 + 2 + 1 := by omega
            have i5 : i < m + 2 + 2 := by omega
            by_cases h3 : i = b
            · subst h3
              simp only [upd_apply, l8Heap, mix_at, low_at, i1, i2, i3, i4, i5, hi, if_true, if_false]
            · simp only [upd_apply, l8Heap, mix_at, low_at, i1, i2, i3, i4, i5, h3, hi, if_true, if_false]
          · simp only [upd_apply, l8Heap, mix_at, kk', a4, c2, r5, s5, if_true, if_false]
      · have hl1' : ¬ ((1 : Int) < (es.length : Int)) := by omega
        refine ⟨es, ex, ⟨v, z⟩, p4 + 1 + 1, 2 + 2 + g1 + 4, ?G10, f1, hl16, hv, by omega, by omega, ?_, ?_⟩
        rotate_left
        · rw [show m + (2 + 2 + g1 + 4) = m + 2 + 2 + g1 + 4 by omega]
          simp only [c_spec_l8Some, go_sem, Nat.reduceEqDiff, Nat.reduceAdd, reduceIte, reduceCtorEq, Nat.reduceLeDiff, Nat.reduceLT, q1, hlz, hl1', e5, u1, e1 D (show 1 ≤ D by omega), e2', hwx, hh, a1, a2, a3, a4, a5, a6, a7, a8, b1, b2, b3, c1, c2, c3, c4, c5, c6, c7, c8, d1, d2, d3, d4, hb, low_ge, low_upd, upd_upd, List.map_nil, lo', l1, l2, l3, l4, l5, l6, e3 D (show 4 ≤ D by omega), e4', mix_at, k0, k0', k0'', kk, kk', r1, r2, r3, r4, r5, r6, r7, s1, s2, s3, s4, s5, s6, s7, t1, t2, List.length_map, List.length_set, Nat.le_refl]
          refine fin (fun i hi => ?_)
          have i1 : ¬ i = m := by omega
          have i2 : ¬ i = m + 1 := by omega
          have i3 : ¬ i = m + 2 + 2 + g1 := by omega
          have i4 : ¬ i = m + 2 + 2 + g1 + 2 + 1 := by omega
          have i5 : i < m + 2 + 2 := by omega
          by_cases h3 : i = b
          · subst h3
            simp only [upd_apply, l8Heap, mix_at, low_at, i1, i2, i3, i4, i5, hi, if_true, if_false]
          · simp only [upd_apply, l8Heap, mix_at, low_at, i1, i2, i3, i4, i5, h3, hi, if_true, if_false]
        · simp only [upd_apply, l8Heap, mix_at, kk', a4, c2, r5, s5, if_true, if_false]
  · have hl0' : es = [] := List.eq_nil_of_length_eq_zero (by omega)
    subst hl0'
    have q0 : ¬ ((0 : Int) < ((0 : Nat) : Int)) := by decide
    have q1 : ¬ ((1 : Int) < ((0 : Nat) : Int)) := by decide
    refine ⟨[], ex, ⟨v, z⟩, p4 + 1, 2 + 2 + g1 + 4, ?G1, f1, hl16, hv, by omega, by omega, ?_, ?_⟩
    rotate_left
    · rw [show m + (2 + 2 + g1 + 4) = m + 2 + 2 + g1 + 4 by omega]
      simp only [c_spec_l8Some, go_sem, Nat.reduceEqDiff, Nat.reduceAdd, reduceIte, reduceCtorEq, Nat.reduceLeDiff, Nat.reduceLT, e1 D (show 1 ≤ D by omega), e2', hwx, hh, a1, a2, a3, a4, a5, a6, a7, a8, b1, b2, b3, c1, c2, c3, c4, c5, c6, c7, c8, d1, d2, d3, d4, hb, low_ge, low_upd, upd_upd, q0, q1, List.map_nil, lo', l1, l2, l3, l4, l5, l6, e3 D (show 4 ≤ D by omega), e4', mix_at, k0, k0', k0'', kk, kk', r1, r2, r3, r4, r5, r6, r7, s1, s2, s3, s4, s5, s6, s7, t1, t2]
      refine fin (fun i hi => ?_)
      have i1 : ¬ i = m := by omega
      have i2 : ¬ i = m + 1 := by omega
      have i3 : ¬ i = m + 2 + 2 + g1 := by omega
      have i4 : ¬ i = m + 2 + 2 + g1 + 2 + 1 := by omega
      have i5 : i < m + 2 + 2 := by omega
      by_cases h3 : i = b
      · subst h3
        simp only [upd_apply, l8Heap, mix_at, low_at, i1, i2, i3, i4, i5, hi, if_true, if_false]
      · simp only [upd_apply, l8Heap, mix_at, low_at, i1, i2, i3, i4, i5, h3, hi, if_true, if_false]
    · simp only [upd_apply, l8Heap, mix_at, kk', a4, c2, r5, s5, if_true, if_false]
end Go.Vm.T
end

section
set_option linter.unusedVariables false
set_option linter.unusedSimpArgs false
namespace Go.Vm.T

/-- A code's bytes. -/
structure Bytes (ns : List Int) : Prop where
  len : ns.length ≤ maxLen
  b : ∀ n ∈ ns, 0 ≤ n ∧ n ≤ 255
theorem Bytes.code {ns : List Int} (h : Bytes ns) : Code (ns.take 2000) := ⟨by simp; omega, fun n hn => h.b n (List.mem_of_mem_take hn)⟩
theorem Five.small {es : List Ent} (h : Five es) (hl : es.length ≤ 16) : Small es := ⟨by unfold big; omega, fun e he => by have := h.txt e he; unfold big; omega⟩
theorem d_DrawIndexOk {D : Nat} (hD : 7 ≤ D) (ns : List Int) (hb : Bytes ns) : ∃ es, Five es ∧ es.length ≤ 16 ∧ den pr D f_spec_DrawIndexOk [.lit t_uint8 (ns.map u8C)] = some [.olit t_impl_Entry (es.map Ent.c)] := by
  obtain ⟨D, rfl, hd⟩ := pred_of hD
  obtain ⟨D, rfl, hd⟩ := pred_of hd
  have e1 := d_l10Open (D := D + 1) (by omega) ns hb.len
  have hh : upd (upd (upd (fun _ => none) 0 (some ⟨t_impl_Entry, [], true, false⟩)) 2 (some ⟨t_uint8, [], true, false⟩)) 3 (rdB (ns.take 2000) 0) 3 = rdB (ns.take 2000) 0 := rfl
  obtain ⟨es, ex, e, p', g, G, f1, f2, f3, f4, fg, f5, f6⟩ := l8Some_head (D := D) (by omega) (ns.take 2000) hb.code 0 (by omega) (upd (upd (upd (fun _ => none) 0 (some ⟨t_impl_Entry, [], true, false⟩)) 2 (some ⟨t_uint8, [], true, false⟩)) 3 (rdB (ns.take 2000) 0)) 5 3 (by omega) hh
  refine ⟨es, f1, f2, ?_⟩
  rw [u_spec_DrawIndexOk]
  have g1 : ¬ 6 = 5 + g := by omega
  have g2 : (5 : Nat) ≤ 6 := by decide
  have hbx : ((es.map Ent.c).length < es.length) = False := eq_false (by simp)
  simp only [c_spec_DrawIndexOk, go_sem, Nat.reduceEqDiff, Nat.reduceAdd, reduceIte, reduceCtorEq, Nat.reduceLeDiff, Nat.reduceLT, e1, f5, f6, g1, mix_ge g2, List.length_map, Nat.le_refl]
end Go.Vm.T
end

section
set_option linter.unusedVariables false
set_option linter.unusedSimpArgs false
namespace Go.Vm.T
theorem lp_wpNums {D : Nat} (es : List Int) (hl : es.length ≤ big) :
    Ended (loopN (exec ⟨den pr D, dcl pr D⟩ b_laws_wpNums_0) [0, 1, 5] rounds ⟨upd (upd (upd (fun _ => .bad) 0 (.lit t_int (es.map intC))) 1 (.lit t_int (es.map intC))) 5 (.n (0 : Nat)), fun _ => none, 0, 0⟩) Unit Unit (runI (fun _ _ _ => .inl ()) 0 () es)
      (fun m o => ∃ σ', o = .exit 0 σ') (fun _ o => False) := by
  refine loop_all es (fun i (_ : Unit) => ⟨upd (upd (upd (fun _ => .bad) 0 (.lit t_int (es.map intC))) 1 (.lit t_int (es.map intC))) 5 (.n i), fun _ => none, 0, 0⟩) _ (fun _ _ => True) _ _ () trivial hl (fun i m e K hc hlt hi => ?_) (fun m K _ => ?_)
  · have hr := map_at (f := intC) hc
    have hw := wrap_nat (n := i) (by unfold big at hl; omega)
    simp only [loopN, e_laws_wpNums_0, B_laws_wpNums_0, go_sem, Nat.reduceEqDiff, Nat.reduceAdd, reduceIte, reduceCtorEq, Nat.reduceLeDiff, Nat.reduceLT, List.length_map, hr, hlt, hw]
  · have hi : ¬ es.length < es.length := by omega
    simp only [loopN, e_laws_wpNums_0, B_laws_wpNums_0, go_sem, Nat.reduceEqDiff, Nat.reduceAdd, reduceIte, reduceCtorEq, Nat.reduceLeDiff, Nat.reduceLT, List.length_map, hi]
    exact ⟨_, rfl, _, rfl⟩
theorem d_wpNums {D : Nat} (hD : 1 ≤ D) (es : List Int) (hl : es.length ≤ big) : den pr D f_laws_wpNums [.lit t_int (es.map intC), .lit t_int (es.map intC)] = some [.q true] := by
  obtain ⟨D, rfl, hd⟩ := pred_of hD
  rw [u_laws_wpNums]
  obtain ⟨out, lo, lp⟩ := lp_wpNums (D := D) es hl
  rw [run_unit] at lp
  obtain ⟨σ', rfl⟩ := lp
  rw [show ((0 : Nat) : Int) = 0 from rfl] at lo
  simp only [c_laws_wpNums, go_sem, Nat.reduceEqDiff, Nat.reduceAdd, reduceIte, reduceCtorEq, Nat.reduceLeDiff, Nat.reduceLT, List.length_map, lo]

/-! ### the order of values -/
theorem bytesLt_total : ∀ a b : List UInt8, bytesLt a b = false → bytesLt b a = false → a = b
  | [], [], _, _ => rfl
  | [], y :: b, h, _ => by cases h
  | x :: a, [], _, h => by cases h
  | x :: a, y :: b, h1, h2 => by
    have e1 : bytesLt (x :: a) (y :: b) = (decide (x < y) || (x == y && bytesLt a b)) := rfl
    have e2 : bytesLt (y :: b) (x :: a) = (decide (y < x) || (y == x && bytesLt b a)) := rfl
    rw [e1, Bool.or_eq_false_iff] at h1
    rw [e2, Bool.or_eq_false_iff] at h2
    have n1 := of_decide_eq_false h1.1
    have n2 := of_decide_eq_false h2.1
    have hxy : x = y := UInt8.le_antisymm (UInt8.not_lt.1 n2) (UInt8.not_lt.1 n1)
    subst hxy
    have h3 := h1.2
    have h4 := h2.2
    simp only [beq_self_eq_true, Bool.true_and] at h3 h4
    rw [bytesLt_total a b h3 h4]
theorem valLess_total (a b : Val) (h1 : valLess a b = false) (h2 : valLess b a = false) : a = b := by
  obtain ⟨k, n, t⟩ := a
  obtain ⟨k', n', t'⟩ := b
  unfold valLess at h1 h2
  simp only at h1 h2
  by_cases hk : k = k'
  · subst hk
    by_cases hn : n = n'
    · subst hn
      simp only [decide_true, Bool.not_true, cond_false] at h1 h2
      have := bytesLt_total _ _ h1 h2
      rw [Go.ByteArray.toList_eq, Go.ByteArray.toList_eq] at this
      rw [Go.WideShapes.bytes_inj this]
    · have hn' : ¬ n' = n := fun h => hn h.symm
      simp only [decide_true, Bool.not_true, cond_false, hn, hn', decide_false, Bool.not_false, cond_true, decide_eq_false_iff_not] at h1 h2
      omega
  · have hk' : ¬ k' = k := fun h => hk h.symm
    simp only [hk, hk', decide_false, Bool.not_false, cond_true, decide_eq_false_iff_not] at h1 h2
    omega
theorem span_one (v w : Val) : inSpan v v w = decide (w = v) := by
  unfold inSpan
  by_cases h : w = v
  · subst h
    rw [valLess_self]
    simp
  · cases h1 : valLess w v with
    | true => simp [h]
    | false =>
      cases h2 : valLess v w with
      | true => simp [h]
      | false => exact absurd (valLess_total w v h1 h2) h
end Go.Vm.T
end

section
set_option linter.unusedVariables false
set_option linter.unusedSimpArgs false
namespace Go.Vm.T
theorem bytesLt_cons (x y : UInt8) (a b : List UInt8) : bytesLt (x :: a) (y :: b) = true ↔ x < y ∨ (x = y ∧ bytesLt a b = true) := by
  have e1 : bytesLt (x :: a) (y :: b) = (decide (x < y) || (x == y && bytesLt a b)) := rfl
  rw [e1, Bool.or_eq_true, Bool.and_eq_true, decide_eq_true_eq, beq_iff_eq]
theorem bytesLt_trans : ∀ a b c : List UInt8, bytesLt a b = true → bytesLt b c = true → bytesLt a c = true
  | [], [], _, h, _ => by cases h
  | _ :: _, [], _, h, _ => by cases h
  | [], y :: b, [], _, h => by cases h
  | [], y :: b, z :: c, _, _ => rfl
  | x :: a, y :: b, [], _, h => by cases h
  | x :: a, y :: b, z :: c, h1, h2 => by
    rw [bytesLt_cons] at *
    rcases h1 with h1 | ⟨rfl, h1⟩
    · rcases h2 with h2 | ⟨rfl, h2⟩
      · exact .inl (UInt8.lt_trans h1 h2)
      · exact .inl h1
    · rcases h2 with h2 | ⟨rfl, h2⟩
      · exact .inl h2
      · exact .inr ⟨rfl, bytesLt_trans a b c h1 h2⟩
theorem valLess_iff (a b : Val) : valLess a b = true ↔ a.k < b.k ∨ (a.k = b.k ∧ (a.n < b.n ∨ (a.n = b.n ∧ bytesLt a.t.toList b.t.toList = true))) := by
  unfold valLess
  by_cases hk : a.k = b.k
  · by_cases hn : a.n = b.n
    · simp [hk, hn]
    · simp [hk, hn]
  · simp [hk]
theorem valLess_trans (a b c : Val) (h1 : valLess a b = true) (h2 : valLess b c = true) : valLess a c = true := by
  rw [valLess_iff] at *
  rcases h1 with h1 | ⟨k1, h1⟩
  · rcases h2 with h2 | ⟨k2, h2⟩
    · exact .inl (by omega)
    · exact .inl (by omega)
  · rcases h2 with h2 | ⟨k2, h2⟩
    · exact .inl (by omega)
    · refine .inr ⟨by omega, ?_⟩
      rcases h1 with h1 | ⟨n1, h1⟩
      · rcases h2 with h2 | ⟨n2, h2⟩
        · exact .inl (by omega)
        · exact .inl (by omega)
      · rcases h2 with h2 | ⟨n2, h2⟩
        · exact .inl (by omega)
        · exact .inr ⟨by omega, bytesLt_trans _ _ _ h1 h2⟩
end Go.Vm.T
end

section
set_option linter.unusedVariables false
set_option linter.unusedSimpArgs false
namespace Go.Vm.T
abbrev nilV : Val := ⟨0, 0, ⟨#[]⟩⟩
theorem ok_nil (v : Val) (h : valOk v = true) : valLess v nilV = false := by
  unfold valOk at h
  by_cases h0 : v.k = 0
  · simp only [h0, decide_true, cond_true, Bool.true_and, Bool.and_eq_true, decide_eq_true_eq] at h
    obtain ⟨k, n, t⟩ := v
    simp only at h0 h
    obtain ⟨rfl, rfl⟩ := h
    subst h0
    exact valLess_self _
  · by_cases h1 : v.k = 1
    · cases hl : valLess v nilV with
      | false => rfl
      | true => rw [valLess_iff] at hl; simp only at hl; omega
    · by_cases h2 : v.k = 2
      · cases hl : valLess v nilV with
        | false => rfl
        | true => rw [valLess_iff] at hl; simp only at hl; omega
      · simp [h0, h1, h2] at h
theorem entLess_v {a b : Ent} (h : entLess a b = true) : valLess b.v a.v = false := by
  unfold entLess at h
  by_cases hv : a.v = b.v
  · rw [hv]; exact valLess_self _
  · simp only [hv, decide_false, Bool.not_false, cond_true] at h
    cases hl : valLess b.v a.v with
    | false => rfl
    | true => have := valLess_trans _ _ _ h hl; rw [valLess_self] at this; cases this
/-- In a chain nobody is behind the last. -/
theorem chain_last : ∀ (es : List Ent) (p : Option Ent) (l : Ent), chain p es = true → es.getLast? = some l → ∀ e ∈ es, valLess l.v e.v = false ∧ valOk e.v = true
  | [], _, _, _, h, _, _ => by cases h
  | [x], p, l, hc, h, e, he => by
    simp at h he
    subst h
    subst he
    have : chain p [e] = (chOk p e && true) := rfl
    rw [this, Bool.and_true] at hc
    unfold chOk entOk at hc
    simp only [Bool.and_eq_true] at hc
    exact ⟨valLess_self _, hc.1.1⟩
  | x :: y :: es, p, l, hc, h, e, he => by
    have hx : chain p (x :: y :: es) = (chOk p x && chain (some x) (y :: es)) := rfl
    rw [hx, Bool.and_eq_true] at hc
    have hl : (y :: es).getLast? = some l := by simpa using h
    have ih := chain_last (y :: es) (some x) l hc.2 hl
    rcases List.mem_cons.1 he with rfl | he
    · have h0 := hc.1
      unfold chOk entOk at h0
      simp only [Bool.and_eq_true] at h0
      refine ⟨?_, h0.1.1⟩
      have hy : chain (some e) (y :: es) = (chOk (some e) y && chain (some y) es) := rfl
      have h1 := hc.2
      rw [hy, Bool.and_eq_true] at h1
      have h2 := h1.1
      unfold chOk at h2
      simp only [Bool.and_eq_true] at h2
      have h3 := entLess_v h2.2
      have h4 := (ih y (by simp)).1
      cases hle : valLess l.v e.v with
      | false => rfl
      | true =>
        cases hey : valLess e.v y.v with
        | true => have := valLess_trans _ _ _ hle hey; rw [h4] at this; cases this
        | false => have := valLess_total _ _ hey h3; rw [this] at hle; rw [hle] at h4; cases h4
    · exact ih e he
theorem found_all (es : List Ent) (l : Ent) (h : indexOk es = true) (hl : es.getLast? = some l) : foundA (inSpan nilV l.v) es = es.map Ent.id := by
  unfold foundA
  rw [if_pos h]
  unfold foundL
  have hc : chain none es = true := by
    unfold indexOk at h
    rw [Bool.and_eq_true] at h
    exact h.1
  rw [List.filter_eq_self.2 (fun e he => ?_)]
  obtain ⟨h1, h2⟩ := chain_last es none l hc hl e he
  unfold inSpan
  rw [ok_nil _ h2, h1]
  rfl
end Go.Vm.T
end

section
set_option linter.unusedVariables false
set_option linter.unusedSimpArgs false
namespace Go.Vm.T
theorem lp_FnIndexAll {D : Nat} (hD : 6 ≤ D) (es : List Ent) (hs : Small es) :
    Ended (loopN (exec ⟨den pr D, dcl pr D⟩ b_laws_FnIndexAll_0) [3, 4, 5] rounds ⟨upd (upd (upd (fun _ => .bad) 3 (.ref t_impl_Entry 0 0 es.length es.length false)) 4 (.ref t_int 1 0 es.length es.length false)) 5 (.n (0 : Nat)), upd (upd (fun _ => none) 0 (some ⟨t_impl_Entry, es.map Ent.c, true, false⟩)) 1 (some ⟨t_int, (es.map Ent.id).map intC, true, false⟩), 2, 0⟩) Unit Unit (runI (fun _ _ _ => .inl ()) 0 () es)
      (fun m o => ∃ σ', o = .exit 0 σ') (fun _ o => False) := by
  refine loop_all es (fun i (_ : Unit) => ⟨upd (upd (upd (fun _ => .bad) 3 (.ref t_impl_Entry 0 0 es.length es.length false)) 4 (.ref t_int 1 0 es.length es.length false)) 5 (.n i), upd (upd (fun _ => none) 0 (some ⟨t_impl_Entry, es.map Ent.c, true, false⟩)) 1 (some ⟨t_int, (es.map Ent.id).map intC, true, false⟩), 2, 0⟩) _ (fun _ _ => True) _ _ () trivial hs.len (fun i m e K hc hlt hi => ?_) (fun m K _ => ?_)
  · have hl := hs.len
    have hr := map_at (f := Ent.c) hc
    have hr2 : ((es.map Ent.id).map intC)[i]? = some (intC e.id) := map_at (map_at hc)
    have hw := wrap_nat (n := i) (by unfold big at hl; omega)
    have h1 := d_IndexSpan hD es e.v e.v hs
    have h2 := d_IndexFind hD es e.v hs
    have hsp : inSpan e.v e.v = fun w => decide (w = e.v) := funext fun w => span_one e.v w
    rw [hsp] at h1
    have h3 := d_wpNums (show 1 ≤ D by omega) (foundA (fun w => decide (w = e.v)) es) (Nat.le_trans (foundA_len _ es) hl)
    generalize foundA (fun w => decide (w = e.v)) es = fs at *
    simp only [loopN, e_laws_FnIndexAll_0, B_laws_FnIndexAll_0, go_sem, Nat.reduceEqDiff, Nat.reduceAdd, reduceIte, reduceCtorEq, Nat.reduceLeDiff, Nat.reduceLT, List.length_map, hr, hr2, hlt, hw, h1, h2, h3, take_map, rowsSl_ent, rowsSl_int, Nat.le_refl]
  · have hi : ¬ es.length < es.length := by omega
    simp only [loopN, e_laws_FnIndexAll_0, B_laws_FnIndexAll_0, go_sem, Nat.reduceEqDiff, Nat.reduceAdd, reduceIte, reduceCtorEq, Nat.reduceLeDiff, Nat.reduceLT, List.length_map, hi]
    exact ⟨_, rfl, _, rfl⟩
theorem d_FnIndexAll {D : Nat} (hD : 8 ≤ D) (ns : List Int) (hb : Bytes ns) : den pr D f_laws_FnIndexAll [.lit t_uint8 (ns.map u8C)] = some [.q true] := by
  obtain ⟨D, rfl, hd⟩ := pred_of hD
  rw [u_laws_FnIndexAll]
  by_cases hn : (1048576 : Int) < (ns.length : Int)
  · simp only [c_laws_FnIndexAll, go_sem, Nat.reduceEqDiff, Nat.reduceAdd, reduceIte, reduceCtorEq, Nat.reduceLeDiff, Nat.reduceLT, List.length_map, hn]
  · obtain ⟨es, f1, f2, e0⟩ := d_DrawIndexOk (show 7 ≤ D by omega) ns hb
    have hs := f1.small f2
    have e1 := d_IndexOk (show 4 ≤ D by omega) es hs
    have e2 := d_spec_IndexOk (show 3 ≤ D by omega) es hs
    by_cases hq : indexOk es = true ∧ 0 < es.length
    · obtain ⟨hi, hpos⟩ := hq
      obtain ⟨j, hj⟩ : ∃ j, es.length = j + 1 := ⟨es.length - 1, by omega⟩
      have hjl : j < es.length := by omega
      have hg : es[j]? = some es[j] := List.getElem?_eq_getElem hjl
      have hlast : es.getLast? = some es[j] := by rw [List.getLast?_eq_getElem?, hj]; exact hg
      have hr := map_at (f := Ent.c) hg
      have hfa := found_all es es[j] hi hlast
      have e3 := d_IndexSpan (show 6 ≤ D by omega) es nilV es[j].v hs
      rw [hfa] at e3
      rw [hi] at e1 e2
      have hw : IntKind.i64.wrap ((es.length : Int) - 1) = (j : Int) := by rw [wrap_i64 (by omega) (by omega)]; omega
      obtain ⟨out, lo, lp⟩ := lp_FnIndexAll (show 6 ≤ D by omega) es hs
      rw [run_unit] at lp
      obtain ⟨σ', rfl⟩ := lp
      rw [show ((0 : Nat) : Int) = 0 from rfl] at lo
      have hz : ¬ ((es.length : Int) = 0) := by omega
      generalize es[j] = w at *
      simp only [c_laws_FnIndexAll, go_sem, Nat.reduceEqDiff, Nat.reduceAdd, reduceIte, reduceCtorEq, Nat.reduceLeDiff, Nat.reduceLT, List.length_map, hn, e0, e1, e2, e3, hw, hr, hz, lo, hjl, take_map, rowsSl_ent, rowsSl_int, Nat.le_refl]
    · have hnil : foundA (inSpan nilV ⟨2, 0, ⟨#[122, 122, 122, 122]⟩⟩) es = [] := by
        by_cases hi : indexOk es = true
        · have : es = [] := List.eq_nil_of_length_eq_zero (by have := not_and.1 hq hi; omega)
          subst this
          unfold foundA
          split <;> rfl
        · unfold foundA
          rw [if_neg hi]
      have e3 := d_IndexSpan (show 6 ≤ D by omega) es nilV ⟨2, 0, ⟨#[122, 122, 122, 122]⟩⟩ hs
      rw [hnil] at e3
      cases hi : indexOk es with
      | false =>
        rw [hi] at e1 e2
        simp only [c_laws_FnIndexAll, go_sem, Nat.reduceEqDiff, Nat.reduceAdd, reduceIte, reduceCtorEq, Nat.reduceLeDiff, Nat.reduceLT, List.length_map, hn, e0, e1, e2, e3, take_map, rowsSl_ent, rowsSl_int, Nat.le_refl, List.map_nil]
        try rfl
      | true =>
        have : es = [] := List.eq_nil_of_length_eq_zero (by have := not_and.1 hq hi; omega)
        subst this
        rw [hi] at e1 e2
        simp only [List.map_nil] at e0 e1 e2 e3
        simp only [c_laws_FnIndexAll, go_sem, Nat.reduceEqDiff, Nat.reduceAdd, reduceIte, reduceCtorEq, Nat.reduceLeDiff, Nat.reduceLT, List.length_map, hn, e0, e1, e2, e3, Nat.le_refl, List.map_nil]
        try rfl
end Go.Vm.T
end
