/-
  Tables and what is asked, of the reference's
-/
import Derived.Test.YtcceojmajfinpaaGreatDoorFnsG
import Derived.Test.YtcceojmajfinpaaGreatDoorFnsF
section
set_option linter.unusedVariables false
set_option linter.unusedSectionVars false
set_option linter.unusedSimpArgs false
namespace Go.Vm.T
open Go.Proofs
def allG (t : Tab) (_ : Nat) (acc : List (List Val)) (r : RowV) : List (List Val) ⊕ Unit := .inl (acc ++ [nowV t r])
theorem Zr5 (t : Tab) : ∀ (rs : List RowV) (i : Nat) (acc : List (List Val)), runI (allG t) i acc rs = .inl (acc ++ rs.map (nowV t))
 | [], i, acc => by simp [runI]
 | r :: rs, i, acc => by
   unfold runI allG
   simp only
   have := Zr5 t rs (i + 1) (acc ++ [nowV t r])
   unfold allG at this
   rw [this]
   simp
abbrev alS (t : Tab) (i : Nat) (acc : List (List Val)) : St := ⟨upd (upd (upd (fun _ => .bad) 1 (.ptr 0 0 0)) 3 (.ref Zp 1 0 acc.length acc.length (decide (i = 0)))) 4 (.n i), upd (upd (fun _ => none) 0 (some ⟨Zb, [t.c], true, true⟩)) 1 (some ⟨Zp, acc.map Z39, true, false⟩), 2, 0⟩
variable [Pr2]
theorem Zw2 {D : Nat} (hD : 9 ≤ D) (t : Tab) (ht : SmallT t) (hs : Zk t.first = true) (hn : ∀ r ∈ t.rows, NowOk t r) :
 Xr (Z9 (exec ⟨den pr D, dcl pr D, dfl pr D⟩ Z3m) [1, 3, 4] rounds (alS t 0 [])) (List (List Val)) Unit (runI (allG t) 0 [] t.rows)
  (fun m o => ∃ σ' ex, o = .exit 0 σ' ∧ σ'.s 3 = .ref Zp 1 0 m.length m.length ex ∧ σ'.h 1 = some ⟨Zp, m.map Z39, true, false⟩) (fun _ o => False) := by
 refine Zh t.rows (alS t) (allG t) (fun i acc => acc.length = i) _ _ [] rfl ht.rlen (fun i acc r K hc hlt hI => ?_) (fun acc K hI => ?_)
 · have hrx := Zq (f := RowV.c) hc
   have hw := Zf (n := i) (by have := ht.rlen; unfold big at this; omega)
   have e1 := Zn9 hD t ht hs r (hn r (List.mem_of_getElem? hc))
   have hal : acc.length + 1 ≤ big := by have := ht.rlen; omega
   have hat : (acc.map Z39).take acc.length = acc.map Z39 := List.take_of_length_le (by simp)
   have hz : decide (i + 1 = 0) = false := by simp
   unfold allG
   generalize nowV t r = row at *
   have hvt : (row.map Val.c).take row.length = row.map Val.c := List.take_of_length_le (by simp)
   have em : (acc ++ [row]).map Z39 = acc.map Z39 ++ [Z39 row] := by simp
   have hax : (acc ++ [row]).length = acc.length + 1 := by simp
   simp only [alS, Z9, Z6s, Z1s, go_sem, List.length_map, hrx, hlt, hw, e1, hal, hat, hvt, em, hax, hz, Zg, Option.isNone_none, and_self, if_true, Nat.sub_zero, List.drop_zero, Nat.zero_le, Nat.le_refl]
   exact hI
 · have hi : ¬ t.rows.length < t.rows.length := by omega
   simp only [alS, Z9, Z6s, Z1s, go_sem, List.length_map, hi]
   exact ⟨_, rfl, _, _, rfl, rfl, rfl⟩
theorem Y00 {D : Nat} (hD : 10 ≤ D) (t : Tab) (ht : SmallT t) (hs : Zk t.first = true) (hn : ∀ r ∈ t.rows, NowOk t r) : den pr D Z05 [.agg t.c] = some [.olit Zp ((t.rows.map (nowV t)).map Z39)] := by
 obtain ⟨D, rfl, hd⟩ := Z8 hD
 rw [Zjp]
 obtain ⟨out, lo, lp⟩ := Zw2 hd t ht hs hn
 rw [Zr5] at lp
 obtain ⟨σ', ex, rfl, l1, l2⟩ := lp
 simp only [alS, List.length_nil, List.map_nil, decide_true] at lo
 rw [show ((0 : Nat) : Int) = 0 from rfl] at lo
 simp only [List.nil_append] at l1 l2
 have hat : ((t.rows.map (nowV t)).map Z39).take (t.rows.map (nowV t)).length = (t.rows.map (nowV t)).map Z39 := List.take_of_length_le (by simp)
 have hll : ((t.rows.map (nowV t)).map Z39).length = (t.rows.map (nowV t)).length := by simp
 generalize t.rows.map (nowV t) = m at *
 simp only [c_spec_l3All, go_sem, lo, l1, l2, hat, hll, Nat.le_refl, Nat.lt_irrefl]
end Go.Vm.T
namespace Go.Vm.T
open Go.Proofs
abbrev stS (t : Tab) (i : Nat) : St := ⟨upd (upd (upd (fun _ => .bad) 1 (.ptr 0 0 0)) 3 (.ref Z0 1 0 (Zc t).length (Zc t).length false)) 4 (.n i), upd (upd (fun _ => none) 0 (some ⟨Zb, [t.c], true, true⟩)) 1 (some ⟨Z0, (Zc t).map ColV.c, true, false⟩), 2, 0⟩
theorem bq2 {X a : A} : (bnd (opQ false X) fun _ => some a) = some a := by
 obtain ⟨q, hq⟩ := Y2n X
 rw [hq]
 rfl
variable [Pr2]
noncomputable abbrev stLp (D : Nat) (K : Nat) (σ : St) : Option Out := Z9 (exec ⟨den pr D, dcl pr D, dfl pr D⟩ Znu) [1, 3, 4] K σ
abbrev RetF (o : Option Out) : Prop := ∃ out, o = some out ∧ ∃ σ', out = .ret σ' ∧ σ'.s 2 = .q false
def g72 : List G := [.g 67 false (.call (some 72) 2 0 Zl [(.t 68), (.t 71)]), .g 67 false (.un 73 .not (.t 72)), .o (.pick 74 (.t 67) (.k (.v (.bool true))) (.t 73))]
noncomputable def tl72 (E : Env) (σ : St) (o : Option A) : Nat → A := match bnd (Xc false σ (some 71) o none) (Za E 2 g72) with | some τ => τ.s | none => σ.s
theorem Zy1 (E : Env) (σ : St) (o : Option A) (k : Option St) (h : σ.s 67 = .q true) : bnd (Xc false σ (some 71) o k) (Za E 2 [.g 67 false (.call (some 72) 2 0 Zl [(.t 68), (.t 71)]), .g 67 false (.un 73 .not (.t 72)), .o (.pick 74 (.t 67) (.k (.v (.bool true))) (.t 73))]) = some ⟨upd (tl72 E σ o) 74 (.q true), σ.h, σ.n, σ.base⟩ := by
 have key : ∃ f, bnd (Xc false σ (some 71) o none) (Za E 2 g72) = some ⟨upd f 74 (.q true), σ.h, σ.n, σ.base⟩ := by
  rw [Xf]
  obtain ⟨s, hp, n, b⟩ := σ
  simp only at h
  simp only [g72, go_sem, h, Xf, Z84]
  rw [bq]
  exact ⟨_, rfl⟩
 obtain ⟨f, hf⟩ := key
 have : tl72 E σ o = upd f 74 (.q true) := by unfold tl72; rw [hf]
 rw [this, Xf, ← Xf _ _ _ none]
 rw [show upd (upd f 74 (.q true)) 74 (.q true) = upd f 74 (.q true) from by funext i; simp only [Z7]; split <;> rfl]
 exact hf
structure StF (t : Tab) (i : Nat) (r : RowV) : Prop where
 hr : (t.rows.map RowV.c)[i]? = some r.c
 hlt : i < t.rows.length
 hw : IntKind.i64.wrap ((i : Int) + 1) = ((i + 1 : Nat) : Int)
theorem st_0 {D : Nat} {t : Tab} {r : RowV} (F : StF t 0 r) (K : Nat) (hb : r.ver < 0 ∨ (t.chg.length : Int) < r.ver ∨ r.id < 1 ∨ t.next ≤ r.id) : RetF (stLp D (K + 1) (stS t 0)) := by
 obtain ⟨hr, hlt, hw⟩ := F
 have hw1 : IntKind.i64.wrap (((0 : Nat) : Int) - 1) = -1 := by decide
 have hn : ((0 : Int) ≤ -1) = False := by simp
 have z0 : ((0 : Int) < ((0 : Nat) : Int)) = False := by simp
 rcases pf (r.ver < 0) with h1 | h1
 · simp only [stS, stLp, Z9, Z0b, Vr, go_sem, List.length_map, hr, hlt, hw, hw1, h1, hn, z0, Z0p]
   exact ⟨_, rfl, _, rfl, rfl⟩
 rcases pf ((t.chg.length : Int) < r.ver) with h2 | h2
 · simp only [stS, stLp, Z9, Z0b, Vr, go_sem, List.length_map, hr, hlt, hw, hw1, h1, h2, hn, z0, Z0p]
   exact ⟨_, rfl, _, rfl, rfl⟩
 rcases pf (r.id < 1) with h3 | h3
 · simp only [stS, stLp, Z9, Z0b, Vr, go_sem, List.length_map, hr, hlt, hw, hw1, h1, h2, h3, hn, z0, Z0p]
   exact ⟨_, rfl, _, rfl, rfl⟩
 rcases pf (t.next ≤ r.id) with h4 | h4
 · simp only [stS, stLp, Z9, Z0b, Vr, go_sem, List.length_map, hr, hlt, hw, hw1, h1, h2, h3, h4, hn, z0, Z0p]
   exact ⟨_, rfl, _, rfl, rfl⟩
 exact absurd hb (by rw [h1, h2, h3, h4]; simp)
theorem st_s {D : Nat} {t : Tab} {j : Nat} {p r : RowV} (F : StF t (j + 1) r) (hp : (t.rows.map RowV.c)[j]? = some p.c) (hw1 : IntKind.i64.wrap (((j + 1 : Nat) : Int) - 1) = j) (K : Nat) (hb : r.ver < 0 ∨ (t.chg.length : Int) < r.ver ∨ r.id < 1 ∨ t.next ≤ r.id ∨ r.id ≤ p.id) : RetF (stLp D (K + 1) (stS t (j + 1))) := by
 obtain ⟨hr, hlt, hw⟩ := F
 have j0 : (0 : Int) ≤ (j : Int) := by omega
 have jt : ((j : Int)).toNat = j := by omega
 have z0 : ((0 : Int) < ((j + 1 : Nat) : Int)) = True := by simp
 have hj : j < t.rows.length := by omega
 rcases pf (r.ver < 0) with h1 | h1
 · simp only [stS, stLp, Z9, Z0b, Vr, go_sem, List.length_map, hr, hlt, hw, hw1, h1, hp, hj, j0, jt, z0, Z0p]
   exact ⟨_, rfl, _, rfl, rfl⟩
 rcases pf ((t.chg.length : Int) < r.ver) with h2 | h2
 · simp only [stS, stLp, Z9, Z0b, Vr, go_sem, List.length_map, hr, hlt, hw, hw1, h1, h2, hp, hj, j0, jt, z0, Z0p]
   exact ⟨_, rfl, _, rfl, rfl⟩
 rcases pf (r.id < 1) with h3 | h3
 · simp only [stS, stLp, Z9, Z0b, Vr, go_sem, List.length_map, hr, hlt, hw, hw1, h1, h2, h3, hp, hj, j0, jt, z0, Z0p]
   exact ⟨_, rfl, _, rfl, rfl⟩
 rcases pf (t.next ≤ r.id) with h4 | h4
 · simp only [stS, stLp, Z9, Z0b, Vr, go_sem, List.length_map, hr, hlt, hw, hw1, h1, h2, h3, h4, hp, hj, j0, jt, z0, Z0p]
   exact ⟨_, rfl, _, rfl, rfl⟩
 rcases pf (r.id ≤ p.id) with h5 | h5
 · simp only [stS, stLp, Z9, Z0b, Vr, go_sem, List.length_map, hr, hlt, hw, hw1, h1, h2, h3, h4, h5, hp, hj, j0, jt, z0, Z0p]
   exact ⟨_, rfl, _, rfl, rfl⟩
 exact absurd hb (by rw [h1, h2, h3, h4, h5]; simp)
theorem Y4q {D : Nat} {t : Tab} {r : RowV} (F : StF t 0 r) (h1 : (r.ver < 0) = False) (h2 : ((t.chg.length : Int) < r.ver) = False) (h3 : (r.id < 1) = False) (h4 : (t.next ≤ r.id) = False) (s : List ColV) (e1 : den pr D Zm [.agg t.c, .n r.ver] = some [.olit Z0 (s.map ColV.c)]) (e4 : den pr D Zl [.lit Z0 (s.map ColV.c), .lit Z1 (r.vals.map Val.c)] = some [.q false]) (K : Nat) : RetF (stLp D (K + 1) (stS t 0)) := by
 obtain ⟨hr, hlt, hw⟩ := F
 have hw1 : IntKind.i64.wrap (((0 : Nat) : Int) - 1) = -1 := by decide
 have hn : ((0 : Int) ≤ -1) = False := by simp
 have z0 : ((0 : Int) < ((0 : Nat) : Int)) = False := by simp
 have hts : (s.map ColV.c).take s.length = s.map ColV.c := List.take_of_length_le (by simp)
 have htsh : ((Zc t).map ColV.c).take (Zc t).length = (Zc t).map ColV.c := List.take_of_length_le (by simp)
 simp only [stS, stLp, Z9, Z0b, Vr, go_sem, List.length_map, hr, hlt, hw, hw1, h1, h2, h3, h4, hn, z0, Z0p, e1, e4, Zy1, hts, htsh, Z6, Zg, Nat.le_refl, Nat.zero_le, Option.isNone_none, and_self, if_true, List.drop_zero, Nat.sub_zero, Nat.zero_add]
 exact ⟨_, rfl, _, rfl, rfl⟩
theorem Y52 {D : Nat} {t : Tab} {r : RowV} (F : StF t 0 r) (h1 : (r.ver < 0) = False) (h2 : ((t.chg.length : Int) < r.ver) = False) (h3 : (r.id < 1) = False) (h4 : (t.next ≤ r.id) = False) (s : List ColV) (e1 : den pr D Zm [.agg t.c, .n r.ver] = some [.olit Z0 (s.map ColV.c)]) (e4 : den pr D Zl [.lit Z0 (s.map ColV.c), .lit Z1 (r.vals.map Val.c)] = some [.q true]) (row : List Val) (e5 : den pr D Yq [.agg t.c, .agg r.c] = some [.olit Z1 (row.map Val.c)]) (e6 : den pr D Zl [.lit Z0 ((Zc t).map ColV.c), .lit Z1 (row.map Val.c)] = some [.q false]) (K : Nat) : RetF (stLp D (K + 1) (stS t 0)) := by
 obtain ⟨hr, hlt, hw⟩ := F
 have hw1 : IntKind.i64.wrap (((0 : Nat) : Int) - 1) = -1 := by decide
 have hn : ((0 : Int) ≤ -1) = False := by simp
 have z0 : ((0 : Int) < ((0 : Nat) : Int)) = False := by simp
 have hts : (s.map ColV.c).take s.length = s.map ColV.c := List.take_of_length_le (by simp)
 have htsh : ((Zc t).map ColV.c).take (Zc t).length = (Zc t).map ColV.c := List.take_of_length_le (by simp)
 have htn : (row.map Val.c).take row.length = row.map Val.c := List.take_of_length_le (by simp)
 simp only [stS, stLp, Z9, Z0b, Vr, go_sem, List.length_map, hr, hlt, hw, hw1, h1, h2, h3, h4, hn, z0, Z0p, e1, e4, e5, e6, htn, hts, htsh, Z6, Zg, Nat.le_refl, Nat.zero_le, Option.isNone_none, and_self, if_true, List.drop_zero, Nat.sub_zero, Nat.zero_add]
 exact ⟨_, rfl, _, rfl, rfl⟩
theorem Y5y {D : Nat} {t : Tab} {r : RowV} (F : StF t 0 r) (h1 : (r.ver < 0) = False) (h2 : ((t.chg.length : Int) < r.ver) = False) (h3 : (r.id < 1) = False) (h4 : (t.next ≤ r.id) = False) (s : List ColV) (e1 : den pr D Zm [.agg t.c, .n r.ver] = some [.olit Z0 (s.map ColV.c)]) (e4 : den pr D Zl [.lit Z0 (s.map ColV.c), .lit Z1 (r.vals.map Val.c)] = some [.q true]) (row : List Val) (e5 : den pr D Yq [.agg t.c, .agg r.c] = some [.olit Z1 (row.map Val.c)]) (e6 : den pr D Zl [.lit Z0 ((Zc t).map ColV.c), .lit Z1 (row.map Val.c)] = some [.q true]) (K : Nat) : stLp D (K + 1) (stS t 0) = stLp D K (stS t (0 + 1)) := by
 obtain ⟨hr, hlt, hw⟩ := F
 have hw1 : IntKind.i64.wrap (((0 : Nat) : Int) - 1) = -1 := by decide
 have hn : ((0 : Int) ≤ -1) = False := by simp
 have z0 : ((0 : Int) < ((0 : Nat) : Int)) = False := by simp
 have hts : (s.map ColV.c).take s.length = s.map ColV.c := List.take_of_length_le (by simp)
 have htsh : ((Zc t).map ColV.c).take (Zc t).length = (Zc t).map ColV.c := List.take_of_length_le (by simp)
 have htn : (row.map Val.c).take row.length = row.map Val.c := List.take_of_length_le (by simp)
 simp only [stS, stLp, Z9, Z0b, Vr, go_sem, List.length_map, hr, hlt, hw, hw1, h1, h2, h3, h4, hn, z0, Z0p, e1, e4, e5, e6, htn, hts, htsh, Z6, Zg, Nat.le_refl, Nat.zero_le, Option.isNone_none, and_self, if_true, List.drop_zero, Nat.sub_zero, Nat.zero_add]
theorem Y76 {D : Nat} {t : Tab} {j : Nat} {p r : RowV} (F : StF t (j + 1) r) (hp : (t.rows.map RowV.c)[j]? = some p.c) (hw1 : IntKind.i64.wrap (((j + 1 : Nat) : Int) - 1) = j) (h1 : (r.ver < 0) = False) (h2 : ((t.chg.length : Int) < r.ver) = False) (h3 : (r.id < 1) = False) (h4 : (t.next ≤ r.id) = False) (h5 : (r.id ≤ p.id) = False) (s : List ColV) (e1 : den pr D Zm [.agg t.c, .n r.ver] = some [.olit Z0 (s.map ColV.c)]) (e4 : den pr D Zl [.lit Z0 (s.map ColV.c), .lit Z1 (r.vals.map Val.c)] = some [.q false]) (K : Nat) : RetF (stLp D (K + 1) (stS t (j + 1))) := by
 obtain ⟨hr, hlt, hw⟩ := F
 have j0 : (0 : Int) ≤ (j : Int) := by omega
 have jt : ((j : Int)).toNat = j := by omega
 have z0 : ((0 : Int) < ((j + 1 : Nat) : Int)) = True := by simp
 have hj : j < t.rows.length := by omega
 have hts : (s.map ColV.c).take s.length = s.map ColV.c := List.take_of_length_le (by simp)
 have htsh : ((Zc t).map ColV.c).take (Zc t).length = (Zc t).map ColV.c := List.take_of_length_le (by simp)
 simp only [stS, stLp, Z9, Z0b, Vr, go_sem, List.length_map, hr, hlt, hw, hw1, h1, h2, h3, h4, h5, hp, hj, j0, jt, z0, Z0p, e1, e4, Zy1, hts, htsh, Z6, Zg, Nat.le_refl, Nat.zero_le, Option.isNone_none, and_self, if_true, List.drop_zero, Nat.sub_zero, Nat.zero_add]
 exact ⟨_, rfl, _, rfl, rfl⟩
theorem Y5k {D : Nat} {t : Tab} {j : Nat} {p r : RowV} (F : StF t (j + 1) r) (hp : (t.rows.map RowV.c)[j]? = some p.c) (hw1 : IntKind.i64.wrap (((j + 1 : Nat) : Int) - 1) = j) (h1 : (r.ver < 0) = False) (h2 : ((t.chg.length : Int) < r.ver) = False) (h3 : (r.id < 1) = False) (h4 : (t.next ≤ r.id) = False) (h5 : (r.id ≤ p.id) = False) (s : List ColV) (e1 : den pr D Zm [.agg t.c, .n r.ver] = some [.olit Z0 (s.map ColV.c)]) (e4 : den pr D Zl [.lit Z0 (s.map ColV.c), .lit Z1 (r.vals.map Val.c)] = some [.q true]) (row : List Val) (e5 : den pr D Yq [.agg t.c, .agg r.c] = some [.olit Z1 (row.map Val.c)]) (e6 : den pr D Zl [.lit Z0 ((Zc t).map ColV.c), .lit Z1 (row.map Val.c)] = some [.q false]) (K : Nat) : RetF (stLp D (K + 1) (stS t (j + 1))) := by
 obtain ⟨hr, hlt, hw⟩ := F
 have j0 : (0 : Int) ≤ (j : Int) := by omega
 have jt : ((j : Int)).toNat = j := by omega
 have z0 : ((0 : Int) < ((j + 1 : Nat) : Int)) = True := by simp
 have hj : j < t.rows.length := by omega
 have hts : (s.map ColV.c).take s.length = s.map ColV.c := List.take_of_length_le (by simp)
 have htsh : ((Zc t).map ColV.c).take (Zc t).length = (Zc t).map ColV.c := List.take_of_length_le (by simp)
 have htn : (row.map Val.c).take row.length = row.map Val.c := List.take_of_length_le (by simp)
 simp only [stS, stLp, Z9, Z0b, Vr, go_sem, List.length_map, hr, hlt, hw, hw1, h1, h2, h3, h4, h5, hp, hj, j0, jt, z0, Z0p, e1, e4, e5, e6, htn, hts, htsh, Z6, Zg, Nat.le_refl, Nat.zero_le, Option.isNone_none, and_self, if_true, List.drop_zero, Nat.sub_zero, Nat.zero_add]
 exact ⟨_, rfl, _, rfl, rfl⟩
theorem Y6w {D : Nat} {t : Tab} {j : Nat} {p r : RowV} (F : StF t (j + 1) r) (hp : (t.rows.map RowV.c)[j]? = some p.c) (hw1 : IntKind.i64.wrap (((j + 1 : Nat) : Int) - 1) = j) (h1 : (r.ver < 0) = False) (h2 : ((t.chg.length : Int) < r.ver) = False) (h3 : (r.id < 1) = False) (h4 : (t.next ≤ r.id) = False) (h5 : (r.id ≤ p.id) = False) (s : List ColV) (e1 : den pr D Zm [.agg t.c, .n r.ver] = some [.olit Z0 (s.map ColV.c)]) (e4 : den pr D Zl [.lit Z0 (s.map ColV.c), .lit Z1 (r.vals.map Val.c)] = some [.q true]) (row : List Val) (e5 : den pr D Yq [.agg t.c, .agg r.c] = some [.olit Z1 (row.map Val.c)]) (e6 : den pr D Zl [.lit Z0 ((Zc t).map ColV.c), .lit Z1 (row.map Val.c)] = some [.q true]) (K : Nat) : stLp D (K + 1) (stS t (j + 1)) = stLp D K (stS t ((j + 1) + 1)) := by
 obtain ⟨hr, hlt, hw⟩ := F
 have j0 : (0 : Int) ≤ (j : Int) := by omega
 have jt : ((j : Int)).toNat = j := by omega
 have z0 : ((0 : Int) < ((j + 1 : Nat) : Int)) = True := by simp
 have hj : j < t.rows.length := by omega
 have hts : (s.map ColV.c).take s.length = s.map ColV.c := List.take_of_length_le (by simp)
 have htsh : ((Zc t).map ColV.c).take (Zc t).length = (Zc t).map ColV.c := List.take_of_length_le (by simp)
 have htn : (row.map Val.c).take row.length = row.map Val.c := List.take_of_length_le (by simp)
 simp only [stS, stLp, Z9, Z0b, Vr, go_sem, List.length_map, hr, hlt, hw, hw1, h1, h2, h3, h4, h5, hp, hj, j0, jt, z0, Z0p, e1, e4, e5, e6, htn, hts, htsh, Z6, Zg, Nat.le_refl, Nat.zero_le, Option.isNone_none, and_self, if_true, List.drop_zero, Nat.sub_zero, Nat.zero_add]
theorem Zmw {D : Nat} (hD : 9 ≤ D) (t : Tab) (ht : SmallT t) (hs : Zk t.first = true) (hall : (chgs t.first t.chg).isSome = true) :
 Xr (stLp D rounds (stS t 0)) Int Unit (runI (Zbb t) 0 0 t.rows) (fun _ o => ∃ σ', o = .exit 0 σ') (fun _ o => ∃ σ', o = .ret σ' ∧ σ'.s 2 = .q false) := by
 refine Zh t.rows (fun i _ => stS t i) (Zbb t) (fun i m => 0 ≤ m ∧ (i = 0 ∧ m = 0 ∨ ∃ j p, i = j + 1 ∧ t.rows[j]? = some p ∧ m = p.id)) _ _ 0 ⟨Int.le_refl 0, .inl ⟨rfl, rfl⟩⟩ ht.rlen (fun i m r K hc hlt hI => ?_) (fun m K hI => ?_)
 · obtain ⟨hm0, hI⟩ := hI
   have hr := Zq (f := RowV.c) hc
   have hw := Zf (n := i) (by have := ht.rlen; unfold big at this; omega)
   have F : StF t i r := ⟨hr, hlt, hw⟩
   have hv := (ht.vals r (List.mem_of_getElem? hc)).1
   have hv2 := (ht.vals r (List.mem_of_getElem? hc)).2
   have hg := ht.glen
   have hcl := ht.rlen
   have hI' : ∀ b : Int, (i = 0 ∧ m = 0 ∨ ∃ j p, i = j + 1 ∧ t.rows[j]? = some p ∧ m = p.id) := fun _ => hI
   unfold Zbb
   cases p1 : inB r.id (m + 1) (t.next - 1) && inB r.ver 0 t.chg.length with
   | false =>
     have hb : ¬ ((m + 1 ≤ r.id ∧ r.id ≤ t.next - 1) ∧ 0 ≤ r.ver ∧ r.ver ≤ (t.chg.length : Int)) := by
      intro h
      have : (inB r.id (m + 1) (t.next - 1) && inB r.ver 0 t.chg.length) = true := by unfold inB; simp; omega
      rw [this] at p1; cases p1
     rw [← Bool.and_assoc, p1, Bool.false_and, cond_false]
     rcases hI with ⟨rfl, rfl⟩ | ⟨j, p, rfl, hp, rfl⟩
     · exact st_0 F K (by omega)
     · exact st_s F (Zq (f := RowV.c) hp) (by rw [show ((j + 1 : Nat) : Int) - 1 = j by omega]; exact wrap_i64 (by omega) (by unfold big at hcl; omega)) K (by omega)
   | true =>
     have hb : (m + 1 ≤ r.id ∧ r.id ≤ t.next - 1) ∧ 0 ≤ r.ver ∧ r.ver ≤ (t.chg.length : Int) := by
      unfold inB at p1; simp at p1; omega
     obtain ⟨v, hver⟩ : ∃ v : Nat, r.ver = v := ⟨r.ver.toNat, by omega⟩
     have hvl : v ≤ t.chg.length := by omega
     have hvt : r.ver.toNat = v := by omega
     have hap := Zfa t.first (t.chg.take v) (t.chg.drop v)
     rw [List.take_append_drop] at hap
     obtain ⟨s, hs'⟩ : ∃ s, chgs t.first (t.chg.take v) = some s := by
      cases hq : chgs t.first (t.chg.take v) with
      | some s => exact ⟨s, rfl⟩
      | none => rw [hq] at hap; rw [hap] at hall; cases hall
     have e1 := Zby (show 8 ≤ D by omega) t ht v hvl
     unfold Z3k at e1
     rw [if_pos hs, hs', ← hver] at e1
     simp only [Option.getD_some] at e1
     have hss := Z2l hs hs'
     have e4 := Za8 (show 5 ≤ D by omega) s r.vals (Xs hss).1 hv (by omega)
     rw [hss, Bool.true_and] at e4
     have h1 : (r.ver < 0) = False := eq_false (by omega)
     have h2 : ((t.chg.length : Int) < r.ver) = False := eq_false (by omega)
     have h3 : (r.id < 1) = False := eq_false (by omega)
     have h4 : (t.next ≤ r.id) = False := eq_false (by omega)
     rw [← Bool.and_assoc, p1, Bool.true_and, hvt, hs', Option.getD_some]
     cases p3 : Z7o s r.vals with
     | false =>
       rw [p3] at e4
       simp only [Bool.false_and, cond_false]
       rcases hI with ⟨rfl, rfl⟩ | ⟨j, p, rfl, hp, rfl⟩
       · exact Y4q F h1 h2 h3 h4 s e1 e4 K
       · exact Y76 F (Zq (f := RowV.c) hp) (by rw [show ((j + 1 : Nat) : Int) - 1 = j by omega]; exact wrap_i64 (by omega) (by unfold big at hcl; omega)) h1 h2 h3 h4 (eq_false (by omega)) s e1 e4 K
     | true =>
       rw [p3] at e4
       have hN : NowOk t r := ⟨by omega, by omega, hall, by rw [hvt, hs']; exact Zbu p3, hv⟩
       have e5 := Zn9 hD t ht hs r hN
       obtain ⟨s2, hs2⟩ := Option.isSome_iff_exists.1 hall
       have hsT : Zc t = s2 := by unfold Zc; rw [hs2]; rfl
       have hsh : Zk (Zc t) = true := by rw [hsT]; exact Z2l hs hs2
       have hnl := Z9y hN
       have hsn : nowV t r = Zca s (t.chg.drop v) r.vals := by unfold nowV; rw [hvt, hs']; rfl
       have hns := Zb8 (s := s) (cs := t.chg.drop v) hv (fun c hc => ht.chg c (List.mem_of_mem_drop hc))
       have e6 := Za8 (show 5 ≤ D by omega) (Zc t) (nowV t r) (Xs hsh).1 (by rw [hsn]; exact hns) (by rw [hnl]; have := (Xs hsh).2; omega)
       rw [hsh, Bool.true_and] at e6
       cases p4 : Z7o (Zc t) (nowV t r) with
       | false =>
         rw [p4] at e6
         simp only [Bool.and_false, cond_false]
         rcases hI with ⟨rfl, rfl⟩ | ⟨j, p, rfl, hp, rfl⟩
         · exact Y52 F h1 h2 h3 h4 s e1 e4 _ e5 e6 K
         · exact Y5k F (Zq (f := RowV.c) hp) (by rw [show ((j + 1 : Nat) : Int) - 1 = j by omega]; exact wrap_i64 (by omega) (by unfold big at hcl; omega)) h1 h2 h3 h4 (eq_false (by omega)) s e1 e4 _ e5 e6 K
       | true =>
         rw [p4] at e6
         simp only [Bool.and_true, cond_true]
         refine ⟨?_, by omega, .inr ⟨i, r, rfl, hc, rfl⟩⟩
         rcases hI with ⟨rfl, rfl⟩ | ⟨j, p, rfl, hp, rfl⟩
         · exact Y5y F h1 h2 h3 h4 s e1 e4 _ e5 e6 K
         · exact Y6w F (Zq (f := RowV.c) hp) (by rw [show ((j + 1 : Nat) : Int) - 1 = j by omega]; exact wrap_i64 (by omega) (by unfold big at hcl; omega)) h1 h2 h3 h4 (eq_false (by omega)) s e1 e4 _ e5 e6 K
 · have hi : ¬ t.rows.length < t.rows.length := by omega
   simp only [stS, stLp, Z9, Z0b, Vr, go_sem, List.length_map, hi]
   exact ⟨_, rfl, _, rfl⟩
theorem Zpw {D : Nat} (hD : 10 ≤ D) (t : Tab) (ht : SmallT t) (hs : Zk t.first = true) (hall : (chgs t.first t.chg).isSome = true) : den pr D Zm5 [.agg t.c] = some [.q (Zcn t)] := by
 obtain ⟨D, rfl, hd⟩ := Z8 hD
 rw [Y5r]
 have e1 := Zhb hd t ht hs
 obtain ⟨out, lo, lp⟩ := Zmw hd t ht hs hall
 simp only [stS, stLp] at lo
 rw [show ((0 : Nat) : Int) = 0 from rfl] at lo
 unfold Zcn
 cases hq : runI (Zbb t) 0 0 t.rows with
 | inl m =>
   rw [hq] at lp
   obtain ⟨σ', rfl⟩ := lp
   simp only [c_q33, go_sem, e1, List.length_map, Z6, lo]
 | inr u =>
   rw [hq] at lp
   obtain ⟨σ', rfl, l2⟩ := lp
   simp only [c_q33, go_sem, e1, List.length_map, Z6, lo, l2]
end Go.Vm.T
namespace Go.Vm.T
open Go.Proofs
variable [Pr2]
def tw0G (v : Val) (_ : Nat) (_ : Unit) (y : Val) : Unit ⊕ Unit := bif !decide (v.k = 0) && decide (v = y) then .inr () else .inl ()
theorem Ztb (v : Val) : ∀ (l : List Val) (i : Nat), runI (tw0G v) i () l = bif !decide (v.k = 0) && decide (v ∈ l) then .inr () else .inl ()
 | [], i => by simp [runI]
 | y :: l, i => by
   unfold runI
   rw [show tw0G v i () y = bif !decide (v.k = 0) && decide (v = y) then .inr () else .inl () from rfl]
   have ih := Ztb v l (i + 1)
   by_cases h0 : v.k = 0
   · simp only [h0, decide_true, Bool.not_true, Bool.false_and, cond_false] at ih ⊢
     exact ih
   · by_cases h : v = y
     · simp only [h0, h, decide_true, decide_false, Bool.not_false, Bool.true_and, cond_true, List.mem_cons, true_or]
       rw [show decide (y.k = 0) = false from by rw [← h]; simp [h0]]
       rfl
     · simp only [h0, h, decide_false, Bool.not_false, Bool.true_and, cond_false, List.mem_cons, false_or] at ih ⊢
       exact ih
def tw1G (vs : List Val) (i : Nat) (_ : Unit) (v : Val) : Unit ⊕ Unit := runI (tw0G v) 0 () (vs.take i)
def tw2G (es : List (List Val)) (k : Nat) (_ : Unit) (c : ColV) : Unit ⊕ Unit := if c.once = true then runI (tw1G (es.map fun r => r.getD k zV)) 0 () (es.map fun r => r.getD k zV) else .inl ()
def twB (s : List ColV) (es : List (List Val)) : Bool := match runI (tw2G es) 0 () s with
 | .inl _ => false
 | .inr _ => true
theorem Ztf (c : ColV) (hc : c.once = true) (vs : List Val) : ∀ (l pre keys : List Val), vs = pre ++ l → (∀ x, x ∈ keys ↔ x ∈ pre) →
 ((∃ ks, runI (oneG c) pre.length keys l = .inl ks) ∧ runI (tw1G vs) pre.length () l = .inl ()) ∨ (runI (oneG c) pre.length keys l = .inr () ∧ runI (tw1G vs) pre.length () l = .inr ())
 | [], pre, keys, _, _ => .inl ⟨⟨keys, rfl⟩, rfl⟩
 | v :: l, pre, keys, hv, hk => by
   have hp : vs.take pre.length = pre := by rw [hv]; simp
   unfold runI
   have e1 : tw1G vs pre.length () v = bif !decide (v.k = 0) && decide (v ∈ pre) then .inr () else .inl () := by
    unfold tw1G
    rw [hp, Ztb]
   have e2 : oneG c pre.length keys v = if v.k ≠ 0 ∧ v ∈ pre then .inr () else .inl (addV keys v) := by
    unfold oneG
    simp only [hc, true_and, hk v]
   rw [e1, e2]
   by_cases h : v.k ≠ 0 ∧ v ∈ pre
   · right
     rw [if_pos h]
     simp [h.1, h.2]
   · rw [if_neg h]
     have hb : (!decide (v.k = 0) && decide (v ∈ pre)) = false := by
      cases q : (!decide (v.k = 0) && decide (v ∈ pre)) with
      | false => rfl
      | true => simp at q; exact absurd q h
     rw [hb, cond_false]
     simp only
     have ih := Ztf c hc vs l (pre ++ [v]) (addV keys v) (by rw [hv]; simp) (fun x => by
      unfold addV
      split
      · rename_i hin
        rw [hk x]
        constructor
        · intro h; simp [h]
        · intro h
          rcases List.mem_append.1 h with h | h
          · exact h
          · rw [List.mem_singleton.1 h]; exact (hk v).1 hin
      · simp only [List.mem_append, hk x])
     rw [List.length_append] at ih
     exact ih
theorem Zjd (c : ColV) (hc : c.once = false) : ∀ (l keys : List Val) (i : Nat), ∃ ks, runI (oneG c) i keys l = .inl ks
 | [], keys, i => ⟨keys, rfl⟩
 | v :: l, keys, i => by
   unfold runI
   have e2 : oneG c i keys v = .inl (addV keys v) := by unfold oneG; simp [hc]
   rw [e2]
   exact Zjd c hc l _ _
theorem Zso (t : Tab) : ∀ (s : List ColV) (k : Nat), runI (tw2G (t.rows.map (nowV t))) k () s = runI (tabG t) k () s
 | [], k => rfl
 | c :: s, k => by
   have ih := Zso t s (k + 1)
   have e : (t.rows.map (nowV t)).map (fun r => r.getD k zV) = Vw t k := by unfold Vw; simp
   have h : tw2G (t.rows.map (nowV t)) k () c = tabG t k () c := by
    unfold tw2G tabG oneB
    rw [e]
    cases hc : c.once with
    | true =>
      rw [if_pos rfl]
      rcases Ztf c hc (Vw t k) (Vw t k) [] [] rfl (fun x => Iff.rfl) with ⟨⟨ks, h1⟩, h2⟩ | ⟨h1, h2⟩
      · simp only [List.length_nil] at h1 h2
        rw [h1, h2]; rfl
      · simp only [List.length_nil] at h1 h2
        rw [h1, h2]; rfl
    | false =>
      obtain ⟨ks, h1⟩ := Zjd c hc (Vw t k) [] 0
      rw [h1]
      rfl
   unfold runI
   rw [h]
   cases tabG t k () c with
   | inl _ => exact ih
   | inr _ => rfl
theorem Y11 (t : Tab) : twB (Zc t) (t.rows.map (nowV t)) = !tabB t := by
 unfold twB tabB
 rw [Zso]
 cases runI (tabG t) 0 () (Zc t) <;> rfl
abbrev twS2 (s : List ColV) (es : List (List Val)) (c : Nat) : St := ⟨upd (upd (upd (fun _ => .bad) 0 (.lit Z0 (s.map ColV.c))) 1 (.lit Zp (es.map Z39))) 5 (.n c), fun _ => none, 0, 0⟩
abbrev twS1 (s : List ColV) (es : List (List Val)) (c i : Nat) : St := ⟨upd (upd (upd (upd (fun _ => .bad) 0 (.lit Z0 (s.map ColV.c))) 1 (.lit Zp (es.map Z39))) 5 (.n c)) 6 (.n i), fun _ => none, 0, 0⟩
abbrev twS0 (s : List ColV) (es : List (List Val)) (c i k : Nat) : St := ⟨upd (upd (upd (upd (upd (fun _ => .bad) 0 (.lit Z0 (s.map ColV.c))) 1 (.lit Zp (es.map Z39))) 5 (.n c)) 6 (.n i)) 7 (.n k), fun _ => none, 0, 0⟩
structure TwOk (s : List ColV) (es : List (List Val)) : Prop where
 cl : s.length ≤ big
 el : es.length ≤ big
 len : ∀ r ∈ es, r.length = s.length
theorem Zgc {r : List Val} {c : Nat} (h : c < r.length) : r[c]? = some (r.getD c zV) := by
 rw [List.getD_eq_getElem?_getD, List.getElem?_eq_getElem h]; rfl
theorem Y3e (E : Env) (s : List ColV) (es : List (List Val)) (H : TwOk s es) (c i : Nat) (ri : List Val) (hi : es[i]? = some ri) (hc : c < s.length) :
 Xr (Z9 (exec E Xx) [0, 1, 5, 6, 7] rounds (twS0 s es c i 0)) Unit Unit (runI (tw0G (ri.getD c zV)) 0 () ((es.map fun r => r.getD c zV).take i))
  (fun _ o => ∃ σ', o = .exit 4 σ' ∧ σ'.n = 0 ∧ σ'.base = 0 ∧ σ'.s 0 = .lit Z0 (s.map ColV.c) ∧ σ'.s 1 = .lit Zp (es.map Z39) ∧ σ'.s 5 = .n c ∧ σ'.s 6 = .n i) (fun _ o => ∃ σ', o = .ret σ' ∧ σ'.s 4 = .q true) := by
 have hil : i < es.length := (List.getElem?_eq_some_iff.1 hi).1
 have htl : ((es.map fun r => r.getD c zV).take i).length = i := by simp; omega
 have hel := H.el
 have hrl := H.len ri (List.mem_of_getElem? hi)
 refine Zh ((es.map fun r => r.getD c zV).take i) (fun k _ => twS0 s es c i k) (tw0G (ri.getD c zV)) (fun _ _ => True) _ _ () trivial (by omega) (fun k _ y K hy hlt _ => ?_) (fun _ K _ => ?_)
 · rw [htl] at hlt
   rw [List.getElem?_take, if_pos hlt, List.getElem?_map] at hy
   obtain ⟨rk, hk, rfl⟩ := Option.map_eq_some_iff.1 hy
   have hkl := H.len rk (List.mem_of_getElem? hk)
   have hx := Zq (f := Z39) hi
   have hxk := Zq (f := Z39) hk
   have hv := Zq (f := Val.c) (Zgc (r := ri) (c := c) (by omega))
   have hvk := Zq (f := Val.c) (Zgc (r := rk) (c := c) (by omega))
   have hc1 : c < ri.length := by omega
   have hc2 : c < rk.length := by omega
   have hkes : k < es.length := by omega
   have hw := Zf (n := k) (by unfold big at hel; omega)
   unfold tw0G
   generalize ri.getD c zV = v at *
   generalize rk.getD c zV = w at *
   have ht : (!decide (v.k = 0) && decide (v = w)) = (!decide (v.k = 0) && decide (v = w)) := rfl
   rcases pf (v.k = 0) with p | p
   · simp only [twS0, Z9, Z0l, Xy, go_sem, List.length_map, hx, hxk, hv, hvk, hc1, hc2, hkes, hil, hlt, hw, p, Zib]
   · simp only [p, decide_false, Bool.not_false, Bool.true_and]
     have q0 : ∀ b : Bool, decide (v = w) = b → ∀ K, (bif b then ∃ out, Z9 (exec E Xx) [0, 1, 5, 6, 7] (K + 1) (twS0 s es c i k) = some out ∧ ∃ σ', out = .ret σ' ∧ σ'.s 4 = .q true else Z9 (exec E Xx) [0, 1, 5, 6, 7] (K + 1) (twS0 s es c i k) = Z9 (exec E Xx) [0, 1, 5, 6, 7] K (twS0 s es c i (k + 1))) := by
      intro b hb K
      cases b with
      | true => simp only [twS0, Z9, Z0l, Xy, go_sem, List.length_map, hx, hxk, hv, hvk, hc1, hc2, hkes, hil, hlt, hw, p, Zib, hb]; exact ⟨_, rfl, _, rfl, rfl⟩
      | false => simp only [twS0, Z9, Z0l, Xy, go_sem, List.length_map, hx, hxk, hv, hvk, hc1, hc2, hkes, hil, hlt, hw, p, Zib, hb]
     have q := q0 _ rfl K
     cases hb : decide (v = w) with
     | true => rw [hb] at q; simp only [cond_true] at q ⊢; exact q
     | false => rw [hb] at q; simp only [cond_false] at q ⊢; exact ⟨q, trivial⟩
 · rw [htl]
   have hi : ¬ i < i := by omega
   simp only [twS0, Z9, Z0l, Xy, go_sem, List.length_map, hi]
   exact ⟨_, rfl, _, rfl, rfl, rfl, rfl, rfl, rfl, rfl⟩
theorem Y40 (E : Env) (s : List ColV) (es : List (List Val)) (H : TwOk s es) (c : Nat) (col : ColV) (hc : s[c]? = some col) (ho : col.once = true) :
 Xr (Z9 (exec E Z0j) [0, 1, 5, 6] rounds (twS1 s es c 0)) Unit Unit (runI (tw1G (es.map fun r => r.getD c zV)) 0 () (es.map fun r => r.getD c zV))
  (fun _ o => ∃ σ', o = .exit 2 σ' ∧ σ'.n = 0 ∧ σ'.base = 0 ∧ σ'.s 0 = .lit Z0 (s.map ColV.c) ∧ σ'.s 1 = .lit Zp (es.map Z39) ∧ σ'.s 5 = .n c) (fun _ o => ∃ σ', o = .ret σ' ∧ σ'.s 4 = .q true) := by
 have hcl : c < s.length := (List.getElem?_eq_some_iff.1 hc).1
 have hel := H.el
 have hcx := Zq (f := ColV.c) hc
 refine Zh (es.map fun r => r.getD c zV) (fun i _ => twS1 s es c i) (tw1G (es.map fun r => r.getD c zV)) (fun _ _ => True) _ _ () trivial (by rw [List.length_map]; omega) (fun i _ v K hv hlt _ => ?_) (fun _ K _ => ?_)
 · rw [List.length_map] at hlt
   rw [List.getElem?_map] at hv
   obtain ⟨ri, hi, rfl⟩ := Option.map_eq_some_iff.1 hv
   have hw := Zf (n := i) (by unfold big at hel; omega)
   obtain ⟨out, lo, lp⟩ := Y3e E s es H c i ri hi hcl
   simp only [twS0] at lo
   rw [show ((0 : Nat) : Int) = 0 from rfl] at lo
   unfold tw1G
   cases hq : runI (tw0G (ri.getD c zV)) 0 () ((es.map fun r => r.getD c zV).take i) with
   | inl u =>
     rw [hq] at lp
     obtain ⟨σ', rfl, m1, m2, l1, l2, l3, l4⟩ := lp
     simp only [twS1, Z9, Vj, Xe, go_sem, List.length_map, hcx, hcl, hlt, hw, ho, lo, m1, m2, l1, l2, l3, l4]
   | inr u =>
     rw [hq] at lp
     obtain ⟨σ', rfl, l1⟩ := lp
     simp only [twS1, Z9, Vj, Xe, go_sem, List.length_map, hcx, hcl, hlt, hw, ho, lo]
     exact ⟨_, rfl, _, rfl, l1⟩
 · rw [List.length_map]
   have hi : ¬ es.length < es.length := by omega
   simp only [twS1, Z9, Vj, Xe, go_sem, List.length_map, hi, hcx, hcl]
   exact ⟨_, rfl, _, rfl, rfl, rfl, rfl, rfl, rfl⟩
theorem Y3x (E : Env) (s : List ColV) (es : List (List Val)) (H : TwOk s es) :
 Xr (Z9 (exec E Z27) [0, 1, 5] rounds (twS2 s es 0)) Unit Unit (runI (tw2G es) 0 () s) (fun _ o => ∃ σ', o = .exit 0 σ') (fun _ o => ∃ σ', o = .ret σ' ∧ σ'.s 4 = .q true) := by
 have hel := H.el
 have hcl := H.cl
 refine Zh s (fun c _ => twS2 s es c) (tw2G es) (fun _ _ => True) _ _ () trivial hcl (fun c _ col K hc hlt _ => ?_) (fun _ K _ => ?_)
 · have hcx := Zq (f := ColV.c) hc
   have hw := Zf (n := c) (by unfold big at hcl; omega)
   unfold tw2G
   cases ho : col.once with
   | false =>
     have lo : ∃ σ', Z9 (exec E Z0j) [0, 1, 5, 6] rounds (twS1 s es c 0) = some (.exit 2 σ') ∧ σ'.n = 0 ∧ σ'.base = 0 ∧ σ'.s 0 = .lit Z0 (s.map ColV.c) ∧ σ'.s 1 = .lit Zp (es.map Z39) ∧ σ'.s 5 = .n c := by
      obtain ⟨K, hK⟩ : ∃ K, rounds = K + 1 := ⟨rounds - 1, by have := Zkv hcl; omega⟩
      rw [hK]
      rcases pf (0 < es.length) with hz | hz
      · simp only [twS1, Z9, Vj, Xe, go_sem, List.length_map, hcx, hlt, ho, hz]
        exact ⟨_, rfl, rfl, rfl, rfl, rfl, rfl⟩
      · simp only [twS1, Z9, Vj, Xe, go_sem, List.length_map, hcx, hlt, ho, hz]
        exact ⟨_, rfl, rfl, rfl, rfl, rfl, rfl⟩
     obtain ⟨σ', lo, m1, m2, l1, l2, l3⟩ := lo
     simp only [twS1] at lo
     rw [show ((0 : Nat) : Int) = 0 from rfl] at lo
     rw [if_neg (by simp)]
     simp only [twS2, Z9, Z0n, Xz, go_sem, List.length_map, hlt, hw, lo, m1, m2, l1, l2, l3]
   | true =>
     rw [if_pos rfl]
     obtain ⟨out, lo, lp⟩ := Y40 E s es H c col hc ho
     simp only [twS1] at lo
     rw [show ((0 : Nat) : Int) = 0 from rfl] at lo
     cases hq : runI (tw1G (es.map fun r => r.getD c zV)) 0 () (es.map fun r => r.getD c zV) with
     | inl u =>
       rw [hq] at lp
       obtain ⟨σ', rfl, m1, m2, l1, l2, l3⟩ := lp
       simp only [twS2, Z9, Z0n, Xz, go_sem, List.length_map, hlt, hw, lo, m1, m2, l1, l2, l3]
     | inr u =>
       rw [hq] at lp
       obtain ⟨σ', rfl, l1⟩ := lp
       simp only [twS2, Z9, Z0n, Xz, go_sem, List.length_map, hlt, hw, lo]
       exact ⟨_, rfl, _, rfl, l1⟩
 · have hi : ¬ s.length < s.length := by omega
   simp only [twS2, Z9, Z0n, Xz, go_sem, List.length_map, hi]
   exact ⟨_, rfl, _, rfl⟩
theorem Zrd {D : Nat} (hD : 1 ≤ D) (s : List ColV) (es : List (List Val)) (H : TwOk s es) : den pr D Wh [.lit Z0 (s.map ColV.c), .lit Zp (es.map Z39)] = some [.q (twB s es)] := by
 obtain ⟨D, rfl, hd⟩ := Z8 hD
 rw [Zdb]
 obtain ⟨out, lo, lp⟩ := Y3x ⟨den pr D, dcl pr D, dfl pr D⟩ s es H
 simp only [twS2] at lo
 rw [show ((0 : Nat) : Int) = 0 from rfl] at lo
 unfold twB
 cases hq : runI (tw2G es) 0 () s with
 | inl u =>
   rw [hq] at lp
   obtain ⟨σ', rfl⟩ := lp
   simp only [c_spec_l3Twice, go_sem, List.length_map, lo]
 | inr u =>
   rw [hq] at lp
   obtain ⟨σ', rfl, l2⟩ := lp
   simp only [c_spec_l3Twice, go_sem, List.length_map, lo, l2]
end Go.Vm.T
namespace Go.Vm.T
open Go.Proofs
variable [Pr2]
def g40 : List G := [.g 37 false (.un 40 .not (.t 39)), .o (.pick 41 (.t 37) (.k (.v (.bool true))) (.t 40))]
noncomputable def tl40 (E : Env) (σ : St) (o : Option A) : Nat → A := match bnd (Xc false σ (some 39) o none) (Za E 0 g40) with | some τ => τ.s | none => σ.s
theorem Y3q (E : Env) (σ : St) (o : Option A) (k : Option St) (h : σ.s 37 = .q true) : bnd (Xc false σ (some 39) o k) (Za E 0 [.g 37 false (.un 40 .not (.t 39)), .o (.pick 41 (.t 37) (.k (.v (.bool true))) (.t 40))]) = some ⟨upd (tl40 E σ o) 41 (.q true), σ.h, σ.n, σ.base⟩ := by
 have key : ∃ f, bnd (Xc false σ (some 39) o none) (Za E 0 g40) = some ⟨upd f 41 (.q true), σ.h, σ.n, σ.base⟩ := by
  rw [Xf]
  obtain ⟨s, hp, n, b⟩ := σ
  simp only at h
  simp only [g40, go_sem, h, Xf, Z84]
  rw [bq]
  exact ⟨_, rfl⟩
 obtain ⟨f, hf⟩ := key
 have : tl40 E σ o = upd f 41 (.q true) := by unfold tl40; rw [hf]
 rw [this, Xf, ← Xf _ _ _ none]
 rw [show upd (upd f 41 (.q true)) 41 (.q true) = upd f 41 (.q true) from by funext i; simp only [Z7]; split <;> rfl]
 exact hf
theorem Ze0 {D : Nat} (hD : 11 ≤ D) (t : Tab) (ht : SmallT t) : den pr D Wa [.agg t.c] = some [.q (Z44 t)] := by
 obtain ⟨D, rfl, hd⟩ := Z8 hD
 rw [Zdf]
 have e1 := Z35 (show 7 ≤ D by omega) t.first t.chg ht.cols ht.chg ht.glen
 have i1 : ((8 : Int) < (t.chg.length : Int)) = ¬ (t.chg.length ≤ 8) := by rw [eq_iff_iff]; omega
 have i2 : ((8 : Int) < (t.rows.length : Int)) = ¬ (t.rows.length ≤ 8) := by rw [eq_iff_iff]; omega
 unfold Z44
 cases p1 : (Z3k t.first t.chg).isSome with
 | false =>
   rw [p1] at e1
   rw [Bool.false_and]
   simp only [c_spec_TableOk, go_sem, e1, List.length_map, Z6, i1, i2, Y3q]
 | true =>
   rw [p1] at e1
   have hs : Zk t.first = true := by
    unfold Z3k at p1
    split at p1
    · rename_i hs; exact hs
    · cases p1
   have hall : (chgs t.first t.chg).isSome = true := by unfold Z3k at p1; rw [if_pos hs] at p1; exact p1
   have e3 := Zpw (show 10 ≤ D by omega) t ht hs hall
   have e4 := Zhb (show 9 ≤ D by omega) t ht hs
   have iN : inB t.next 1 60 = (!decide (t.next < 1) && !decide (60 < t.next)) := by
    unfold inB
    rw [← decide_not, ← decide_not]
    congr 1 <;> exact decide_eq_decide.2 (by omega)
   rw [Bool.true_and, iN]
   rcases pf (t.chg.length ≤ 8) with h1 | h1
   · rcases pf (t.rows.length ≤ 8) with h2 | h2
     · rcases pf (t.next < 1) with h3 | h3
       · simp only [c_spec_TableOk, go_sem, e1, e3, List.length_map, Z6, i1, i2, h1, h2, h3]
       · rcases pf (60 < t.next) with h4 | h4
         · simp only [c_spec_TableOk, go_sem, e1, e3, List.length_map, Z6, i1, i2, h1, h2, h3, h4]
         · cases hB : Zcn t with
           | false =>
             rw [hB] at e3
             simp only [c_spec_TableOk, go_sem, e1, e3, List.length_map, Z6, i1, i2, h1, h2, h3, h4]
           | true =>
             rw [hB] at e3
             have hn : ∀ r ∈ t.rows, NowOk t r := by
              have hB' := hB
              unfold Zcn at hB'
              split at hB'
              · rename_i m hm
                exact Zaw hm hall (fun r h => (ht.vals r h).1)
              · cases hB'
             have e5 := Y00 (show 10 ≤ D by omega) t ht hs hn
             obtain ⟨s2, hs2⟩ := Option.isSome_iff_exists.1 hall
             have hsT : Zc t = s2 := by unfold Zc; rw [hs2]; rfl
             have hsh : Zk (Zc t) = true := by rw [hsT]; exact Z2l hs hs2
             have e6 := Zrd (show 1 ≤ D by omega) (Zc t) (t.rows.map (nowV t)) ⟨by have := (Xs hsh).2; omega, by rw [List.length_map]; exact ht.rlen, fun r hr => by
              obtain ⟨x, hx, rfl⟩ := List.mem_map.1 hr
              exact Z9y (hn x hx)⟩
             rw [Y11] at e6
             have e7 : (!!tabB t) = tabB t := Bool.not_not _
             generalize hm : t.rows.map (nowV t) = m at *
             have htm : (m.map Z39).take m.length = m.map Z39 := List.take_of_length_le (by simp)
             have hts : ((Zc t).map ColV.c).take (Zc t).length = (Zc t).map ColV.c := List.take_of_length_le (by simp)
             simp only [c_spec_TableOk, go_sem, e1, e3, e4, e5, e6, e7, List.length_map, Z6, i1, i2, h1, h2, h3, h4, htm, hts, Bool.not_not, Nat.le_refl, if_true, ite_self, true_and]
     · simp only [c_spec_TableOk, go_sem, e1, e3, List.length_map, Z6, i1, i2, h1, h2]
   · simp only [c_spec_TableOk, go_sem, e1, e3, List.length_map, Z6, i1, i2, h1]
end Go.Vm.T
namespace Go.Vm.T
open Go.Proofs
variable [Pr2]
def g19 : List G := [.g 16 false (.mv 19 (.t 2)), .g 16 false (.call (some 20) 1 0 Yl [(.t 18), (.t 19)]), .g 16 false (.bin 21 .lss (.t 20) (.k (.v (.int .i64 0)))), .o (.pick 22 (.t 16) (.k (.v (.bool true))) (.t 21)), .o (.mv 23 (.t 22)), .g 23 false (.ld 24 4 true (.t 3)), .g 23 false (.mv 25 (.t 1)), .g 23 false (.call (some 26) 1 0 Zcz [(.t 24), (.t 25)]), .g 23 false (.un 27 .not (.t 26)), .o (.pick 28 (.t 23) (.k (.v (.bool true))) (.t 27))]
end Go.Vm.T
end
