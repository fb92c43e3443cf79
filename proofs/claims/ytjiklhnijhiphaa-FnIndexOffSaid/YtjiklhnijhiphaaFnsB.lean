/-
  What the functions under IndexFind and IndexSpan compute; marks; the laws in the abstract machine
-/
import Derived.Test.YtjiklhnijhiphaaFns
section
set_option linter.unusedVariables false
set_option linter.unusedSimpArgs false
namespace Go.Vm.T

theorem low_upd {n b : Nat} (hb : b < n) (h : Hp) (x : Option Blk) : low n (upd h b x) = upd (low n h) b x := by
  funext i
  simp only [low, upd_apply]
  by_cases h1 : i = b
  · subst h1; simp [hb]
  · simp [h1]
theorem low_low (n : Nat) (h : Hp) : low n (low n h) = low n h := by
  funext i
  simp only [low]
  split <;> simp_all
theorem low_at {n b : Nat} (hb : b < n) (h : Hp) : low n h b = h b := by simp [low, hb]
theorem low_none (n : Nat) : low n (fun _ => none) = fun _ => none := by funext i; simp [low]
theorem upd_upd {α : Type} (f : Nat → α) (k : Nat) (x y : α) : upd (upd f k x) k y = upd f k y := by
  funext i
  simp only [upd_apply]
  split <;> rfl

/-! ### rows that are being marked -/
def mrow (f : Int → List A) (w : Nat) (k : Int) (cs : List (List A)) (i : Nat) : List (List A) := (List.range i).map (fun j => f (k + ((w * j : Nat) : Int))) ++ cs.drop i
theorem mrow_zero (f : Int → List A) (w : Nat) (k : Int) (cs : List (List A)) : mrow f w k cs 0 = cs := by simp [mrow]
theorem mrow_at {f : Int → List A} {w : Nat} {k : Int} {cs : List (List A)} {i : Nat} {c : List A} (h : cs[i]? = some c) : (mrow f w k cs i)[i]? = some c := by
  unfold mrow
  rw [List.getElem?_append_right (by simp)]
  simp [h]
theorem mrow_set {f : Int → List A} {w : Nat} {k : Int} {cs : List (List A)} {i : Nat} {c : List A} (h : cs[i]? = some c) : (mrow f w k cs i).set i (f (k + ((w * i : Nat) : Int))) = mrow f w k cs (i + 1) := by
  have hlt := (List.getElem?_eq_some_iff.1 h).1
  unfold mrow
  rw [List.set_append_right _ _ (by simp)]
  simp only [List.length_map, List.length_range, Nat.sub_self]
  rw [List.drop_eq_getElem_cons hlt, List.set_cons_zero, List.range_succ, List.map_append, List.append_assoc]
  rfl
theorem mrow_length {f : Int → List A} {w : Nat} {k : Int} {cs : List (List A)} {i : Nat} (h : i ≤ cs.length) : (mrow f w k cs i).length = cs.length := by simp [mrow]; omega
def marks (f : Int → List A) (w : Nat) (k : Int) (n : Nat) : List (List A) := (List.range n).map fun j => f (k + ((w * j : Nat) : Int))
theorem mrow_all (f : Int → List A) (w : Nat) (k : Int) (cs : List (List A)) : mrow f w k cs cs.length = marks f w k cs.length := by simp [mrow, marks]
theorem marks_length (f : Int → List A) (w : Nat) (k : Int) (n : Nat) : (marks f w k n).length = n := by simp [marks]
theorem marks_at {f : Int → List A} {w : Nat} {k : Int} {n i : Nat} (h : i < n) : (marks f w k n)[i]? = some (f (k + ((w * i : Nat) : Int))) := by
  unfold marks
  rw [List.getElem?_map, List.getElem?_range h]
  rfl
abbrev intC (x : Int) : List A := [.n x]

theorem lp_markIntS {D : Nat} (cs : List Int) (k : Int) (hk : 0 ≤ k ∧ k ≤ 2 ^ 40) (hl : cs.length ≤ big) (h : Hp) (n b c : Nat) (ex : Bool) (hb : b < n) :
    Ended (loopN (exec ⟨den pr D, dcl pr D⟩ b_laws_markIntS_0) [0, 1, 5] rounds ⟨upd (upd (upd (fun _ => .bad) 0 (.ref t_int b 0 cs.length c ex)) 1 (.n k)) 5 (.n (0 : Nat)), upd (low n h) b (some ⟨t_int, mrow intC 1 k (cs.map intC) 0, true, false⟩), n, n⟩) Unit Unit (runI (fun _ _ _ => .inl ()) 0 () cs)
      (fun m o => ∃ σ', o = .exit 0 σ' ∧ σ'.s 1 = .n (k + cs.length) ∧ σ'.h = upd (low n h) b (some ⟨t_int, marks intC 1 k cs.length, true, false⟩) ∧ σ'.n = n ∧ σ'.base = n) (fun _ o => False) := by
  have h0 : k = k + ((0 : Nat) : Int) := by simp
  rw [show (upd (upd (upd (fun _ => A.bad) 0 (.ref t_int b 0 cs.length c ex)) 1 (.n k)) 5 (.n (0 : Nat))) = (upd (upd (upd (fun _ => A.bad) 0 (.ref t_int b 0 cs.length c ex)) 1 (.n (k + ((0 : Nat) : Int)))) 5 (.n (0 : Nat))) by rw [← h0]]
  refine loop_all cs (fun i (_ : Unit) => ⟨upd (upd (upd (fun _ => .bad) 0 (.ref t_int b 0 cs.length c ex)) 1 (.n (k + (i : Int)))) 5 (.n i), upd (low n h) b (some ⟨t_int, mrow intC 1 k (cs.map intC) i, true, false⟩), n, n⟩) _ (fun _ _ => True) _ _ () trivial hl (fun i m e K hc hlt hi => ?_) (fun m K _ => ?_)
  · have hr := map_at (f := intC) hc
    have hw := wrap_nat (n := i) (by unfold big at hl; omega)
    have hw2 : IntKind.i64.wrap (k + (i : Int) + 1) = k + ((i + 1 : Nat) : Int) := by rw [wrap_i64 (by omega) (by unfold big at hl; omega)]; omega
    have hf := mrow_at (f := intC) (w := 1) (k := k) hr
    have hs := mrow_set (f := intC) (w := 1) (k := k) hr
    rw [Nat.one_mul] at hs
    have hnb : ¬ n ≤ b := by omega
    simp only [loopN, e_laws_markIntS_0, B_laws_markIntS_0, go_sem, Nat.reduceEqDiff, Nat.reduceAdd, reduceIte, reduceCtorEq, Nat.reduceLeDiff, Nat.reduceLT, List.length_map, hr, hlt, hw, hw2, hf, hs, hb, hnb, low_upd hb, low_low, upd_upd]
  · have hi : ¬ cs.length < cs.length := by omega
    have ha := mrow_all intC 1 k (cs.map intC)
    rw [List.length_map] at ha
    simp only [loopN, e_laws_markIntS_0, B_laws_markIntS_0, go_sem, Nat.reduceEqDiff, Nat.reduceAdd, reduceIte, reduceCtorEq, Nat.reduceLeDiff, Nat.reduceLT, List.length_map, hi, ha]
    exact ⟨_, rfl, _, rfl, rfl, rfl, rfl, rfl⟩
theorem d_markIntS {D : Nat} (hD : 1 ≤ D) (cs : List Int) (k : Int) (hk : 0 ≤ k ∧ k ≤ 2 ^ 40) (hl : cs.length ≤ big) (h : Hp) (n b c : Nat) (ex : Bool) (hb : b < n) (hh : h b = some ⟨t_int, cs.map intC, true, false⟩) :
    dcl pr D f_laws_markIntS [.ref t_int b 0 cs.length c ex, .n k] h n = some ([.n (k + cs.length)], upd (low n h) b (some ⟨t_int, marks intC 1 k cs.length, true, false⟩), n) := by
  obtain ⟨D, rfl, hd⟩ := pred_of hD
  rw [v_laws_markIntS]
  obtain ⟨out, lo, lp⟩ := lp_markIntS (D := D) cs k hk hl h n b c ex hb
  rw [run_unit] at lp
  obtain ⟨σ', rfl, l2, l3, l4, l5⟩ := lp
  have hnb : ¬ n ≤ b := by omega
  have hu : upd (low n h) b (some ⟨t_int, cs.map intC, true, false⟩) = low n h := by
    funext i
    simp only [upd_apply]
    split
    · rename_i e; subst e; rw [low_at hb, hh]
    · rfl
  rw [show ((0 : Nat) : Int) = 0 from rfl, mrow_zero, hu] at lo
  simp only [c_laws_markIntS, go_sem, Nat.reduceEqDiff, Nat.reduceAdd, reduceIte, reduceCtorEq, Nat.reduceLeDiff, Nat.reduceLT, hb, hnb, hh, lo, l2, l3, l4, l5]

theorem lp_heldIntS {D : Nat} (m : Nat) (hl : m ≤ big) :
    Ended (loopN (exec ⟨den pr D, dcl pr D⟩ b_laws_heldIntS_0) [0, 1, 5] rounds ⟨upd (upd (upd (fun _ => .bad) 0 (.lit t_int (marks intC 1 1 m))) 1 (.n (1 + ((0 : Nat) : Int)))) 5 (.n (0 : Nat)), fun _ => none, 0, 0⟩) Unit Unit (runI (fun _ _ _ => .inl ()) 0 () (List.range m))
      (fun _ o => ∃ σ', o = .exit 0 σ' ∧ σ'.s 1 = .n (1 + m)) (fun _ o => False) := by
  have hm := marks_length intC 1 1 m
  have hrl : (List.range m).length = m := List.length_range
  refine loop_all (List.range m) (fun i (_ : Unit) => ⟨upd (upd (upd (fun _ => .bad) 0 (.lit t_int (marks intC 1 1 m))) 1 (.n (1 + (i : Int)))) 5 (.n i), fun _ => none, 0, 0⟩) _ (fun _ _ => True) _ _ () trivial (by omega) (fun i _ e K hc hlt hi => ?_) (fun _ K _ => ?_)
  · have hlt' : i < m := by omega
    have hr := marks_at (f := intC) (w := 1) (k := 1) hlt'
    rw [Nat.one_mul] at hr
    have hw := wrap_nat (n := i) (by unfold big at hl; omega)
    have hw2 : IntKind.i64.wrap (1 + (i : Int) + 1) = 1 + ((i + 1 : Nat) : Int) := by rw [wrap_i64 (by omega) (by unfold big at hl; omega)]; omega
    simp only [loopN, e_laws_heldIntS_0, B_laws_heldIntS_0, go_sem, Nat.reduceEqDiff, Nat.reduceAdd, reduceIte, reduceCtorEq, Nat.reduceLeDiff, Nat.reduceLT, hm, hlt', hr, hw, hw2]
  · have hi : ¬ m < m := by omega
    rw [hrl]
    simp only [loopN, e_laws_heldIntS_0, B_laws_heldIntS_0, go_sem, Nat.reduceEqDiff, Nat.reduceAdd, reduceIte, reduceCtorEq, Nat.reduceLeDiff, Nat.reduceLT, hm, hi]
    exact ⟨_, rfl, _, rfl, rfl⟩
theorem d_heldIntS {D : Nat} (hD : 1 ≤ D) (m : Nat) (hl : m ≤ big) : den pr D f_laws_heldIntS [.lit t_int (marks intC 1 1 m), .n 1] = some [.n (1 + m)] := by
  obtain ⟨D, rfl, hd⟩ := pred_of hD
  rw [u_laws_heldIntS]
  obtain ⟨out, lo, lp⟩ := lp_heldIntS (D := D) m hl
  rw [run_unit] at lp
  obtain ⟨σ', rfl, l2⟩ := lp
  rw [show (1 : Int) + ((0 : Nat) : Int) = 1 from rfl, show ((0 : Nat) : Int) = 0 from rfl] at lo
  simp only [c_laws_heldIntS, go_sem, Nat.reduceEqDiff, Nat.reduceAdd, reduceIte, reduceCtorEq, Nat.reduceLeDiff, Nat.reduceLT, lo, l2]

theorem lp_eqIntS {D : Nat} (es : List Int) (hl : es.length ≤ big) :
    Ended (loopN (exec ⟨den pr D, dcl pr D⟩ b_laws_eqIntS_0) [0, 1, 5] rounds ⟨upd (upd (upd (fun _ => .bad) 0 (.lit t_int (es.map intC))) 1 (.lit t_int (es.map intC))) 5 (.n (0 : Nat)), fun _ => none, 0, 0⟩) Unit Unit (runI (fun _ _ _ => .inl ()) 0 () es)
      (fun m o => ∃ σ', o = .exit 0 σ') (fun _ o => False) := by
  refine loop_all es (fun i (_ : Unit) => ⟨upd (upd (upd (fun _ => .bad) 0 (.lit t_int (es.map intC))) 1 (.lit t_int (es.map intC))) 5 (.n i), fun _ => none, 0, 0⟩) _ (fun _ _ => True) _ _ () trivial hl (fun i m e K hc hlt hi => ?_) (fun m K _ => ?_)
  · have hr := map_at (f := intC) hc
    have hw := wrap_nat (n := i) (by unfold big at hl; omega)
    simp only [loopN, e_laws_eqIntS_0, B_laws_eqIntS_0, go_sem, Nat.reduceEqDiff, Nat.reduceAdd, reduceIte, reduceCtorEq, Nat.reduceLeDiff, Nat.reduceLT, List.length_map, hr, hlt, hw]
  · have hi : ¬ es.length < es.length := by omega
    simp only [loopN, e_laws_eqIntS_0, B_laws_eqIntS_0, go_sem, Nat.reduceEqDiff, Nat.reduceAdd, reduceIte, reduceCtorEq, Nat.reduceLeDiff, Nat.reduceLT, List.length_map, hi]
    exact ⟨_, rfl, _, rfl⟩
theorem d_eqIntS {D : Nat} (hD : 1 ≤ D) (es : List Int) (hl : es.length ≤ big) : den pr D f_laws_eqIntS [.lit t_int (es.map intC), .lit t_int (es.map intC)] = some [.q true] := by
  obtain ⟨D, rfl, hd⟩ := pred_of hD
  rw [u_laws_eqIntS]
  obtain ⟨out, lo, lp⟩ := lp_eqIntS (D := D) es hl
  rw [run_unit] at lp
  obtain ⟨σ', rfl⟩ := lp
  rw [show ((0 : Nat) : Int) = 0 from rfl] at lo
  simp only [c_laws_eqIntS, go_sem, Nat.reduceEqDiff, Nat.reduceAdd, reduceIte, reduceCtorEq, Nat.reduceLeDiff, Nat.reduceLT, List.length_map, lo]
end Go.Vm.T
end

section
set_option linter.unusedVariables false
set_option linter.unusedSimpArgs false
namespace Go.Vm.T

/-! ### a mark's text -/
def dig (k : Int) : ByteArray := ⟨[UInt8.ofNat (IntKind.u8.wrap (IntKind.i64.wrap (48 + k.tmod 10))).toNat].toArray⟩
def q10 (k : Int) : Int := IntKind.i64.wrap (k.tdiv 10)
def digs : Nat → Int → ByteArray → ByteArray
  | 0, _, s => s
  | n + 1, k, s => if 0 < k then digs n (q10 k) (dig k ++ s) else s
theorem dig_size (k : Int) (s : ByteArray) : (dig k ++ s).size = s.size + 1 := by
  rw [ByteArray.size_append, Nat.add_comm]
  rfl
theorem digs_size : ∀ (n : Nat) (k : Int) (s : ByteArray), (digs n k s).size ≤ s.size + n
  | 0, _, s => Nat.le_refl _
  | n + 1, k, s => by
    unfold digs
    split
    · have := digs_size n (q10 k) (dig k ++ s)
      rw [dig_size] at this
      omega
    · omega
theorem q10_eq {k : Int} (h0 : 0 ≤ k) (h1 : k ≤ 2 ^ 62) : q10 k = k / 10 := by
  unfold q10
  rw [Int.tdiv_eq_ediv_of_nonneg h0, wrap_i64 (by omega) (by omega)]

theorem lp_markText {D : Nat} : ∀ (n : Nat) (k : Int) (s : ByteArray) (K : Nat), 0 ≤ k → k < 10 ^ n → k ≤ 2 ^ 62 → s.size + n ≤ 2 ^ 20 → n < K →
    ∃ σ', loopN (exec ⟨den pr D, dcl pr D⟩ b_laws_markText_0) [0, 3] K ⟨upd (upd (fun _ => .bad) 0 (.n k)) 3 (.s s), fun _ => none, 0, 0⟩ = some (.exit 0 σ') ∧ σ'.s 3 = .s (digs n k s)
  | n, k, s, K, h0, h1, h2, h3, h4 => by
    obtain ⟨K, rfl⟩ : ∃ j, K = j + 1 := ⟨K - 1, by omega⟩
    by_cases hk : 0 < k
    · cases n with
      | zero => simp at h1; omega
      | succ n =>
        have hq := q10_eq h0 h2
        have hsz : (dig k).size + s.size ≤ 2 ^ 62 := by have := dig_size k s; rw [ByteArray.size_append] at this; omega
        obtain ⟨σ', e1, e2⟩ := lp_markText (D := D) n (q10 k) (dig k ++ s) K (by rw [hq]; omega) (by rw [hq]; rw [Int.pow_succ] at h1; omega) (by rw [hq]; omega) (by rw [dig_size]; omega) (by omega)
        refine ⟨σ', ?_, ?_⟩
        · rw [← e1]
          have hd : (10 : Int) = 0 ↔ False := by decide
          have hdg : (⟨[UInt8.ofNat (IntKind.u8.wrap (IntKind.i64.wrap (48 + k.tmod 10))).toNat].toArray⟩ : ByteArray) = dig k := rfl
          have hqq : IntKind.i64.wrap (k.tdiv 10) = q10 k := rfl
          rw [loopN]
          simp only [e_laws_markText_0, B_laws_markText_0, go_sem, Nat.reduceEqDiff, Nat.reduceAdd, reduceIte, reduceCtorEq, Nat.reduceLeDiff, Nat.reduceLT, hk, hd, bytesOf, hdg, hqq, hsz]
        · rw [e2]
          show _ = A.s (if 0 < k then digs n (q10 k) (dig k ++ s) else s)
          rw [if_pos hk]
    · have hx : digs n k s = s := by
        cases n with
        | zero => rfl
        | succ n => show (if 0 < k then digs n (q10 k) (dig k ++ s) else s) = s; rw [if_neg hk]
      rw [hx]
      simp only [loopN, e_laws_markText_0, B_laws_markText_0, go_sem, Nat.reduceEqDiff, Nat.reduceAdd, reduceIte, reduceCtorEq, Nat.reduceLeDiff, Nat.reduceLT, hk]
      exact ⟨_, rfl, rfl⟩
def markT (k : Int) : ByteArray := if k ≤ 0 then ⟨#[109, 48]⟩ else ⟨#[109]⟩ ++ digs 13 k ⟨#[]⟩
theorem d_markText {D : Nat} (hD : 1 ≤ D) (k : Int) (hk : k ≤ 2 ^ 42) : den pr D f_laws_markText [.n k] = some [.s (markT k)] := by
  obtain ⟨D, rfl, hd⟩ := pred_of hD
  rw [u_laws_markText]
  by_cases h : k ≤ 0
  · simp only [c_laws_markText, go_sem, Nat.reduceEqDiff, Nat.reduceAdd, reduceIte, reduceCtorEq, Nat.reduceLeDiff, Nat.reduceLT, h, markT]
  · obtain ⟨σ', e1, e2⟩ := lp_markText (D := D) 13 k ⟨#[]⟩ rounds (by omega) (by omega) (by omega) (by decide) (by decide)
    have hs := digs_size 13 k ⟨#[]⟩
    have hs2 : (⟨#[109]⟩ : ByteArray).size + (digs 13 k ⟨#[]⟩).size ≤ 2 ^ 62 := by
      have h1 : (⟨#[109]⟩ : ByteArray).size = 1 := rfl
      have h2 : (⟨#[]⟩ : ByteArray).size = 0 := rfl
      omega
    simp only [c_laws_markText, go_sem, Nat.reduceEqDiff, Nat.reduceAdd, reduceIte, reduceCtorEq, Nat.reduceLeDiff, Nat.reduceLT, h, markT, e1, e2, hs2]

/-! ### marked entries -/
abbrev entC (x : Int) : List A := [.n x, .n (x + 1), .s (markT (x + 2)), .n (x + 3)]
theorem mul_at (w i : Nat) : ((w * (i + 1) : Nat) : Int) = ((w * i : Nat) : Int) + w := by rw [Nat.mul_succ]; omega
theorem set_set {α : Type} (l : List α) (i : Nat) (a b : α) : (l.set i a).set i b = l.set i b := List.set_set ..

theorem lp_markEntryS {D : Nat} (hD : 1 ≤ D) (cs : List Ent) (k : Int) (hk : 0 ≤ k ∧ k ≤ 2 ^ 40) (hl : cs.length ≤ big) (h : Hp) (n b c : Nat) (ex : Bool) (hb : b < n) :
    Ended (loopN (exec ⟨den pr D, dcl pr D⟩ b_laws_markEntryS_0) [0, 1, 5] rounds ⟨upd (upd (upd (fun _ => .bad) 0 (.ref t_impl_Entry b 0 cs.length c ex)) 1 (.n (k + ((4 * 0 : Nat) : Int)))) 5 (.n (0 : Nat)), upd (low n h) b (some ⟨t_impl_Entry, mrow entC 4 k (cs.map Ent.c) 0, true, false⟩), n, n⟩) Unit Unit (runI (fun _ _ _ => .inl ()) 0 () cs)
      (fun m o => ∃ σ', o = .exit 0 σ' ∧ σ'.s 1 = .n (k + ((4 * cs.length : Nat) : Int)) ∧ σ'.h = upd (low n h) b (some ⟨t_impl_Entry, marks entC 4 k cs.length, true, false⟩) ∧ σ'.n = n ∧ σ'.base = n) (fun _ o => False) := by
  refine loop_all cs (fun i (_ : Unit) => ⟨upd (upd (upd (fun _ => .bad) 0 (.ref t_impl_Entry b 0 cs.length c ex)) 1 (.n (k + ((4 * i : Nat) : Int)))) 5 (.n i), upd (low n h) b (some ⟨t_impl_Entry, mrow entC 4 k (cs.map Ent.c) i, true, false⟩), n, n⟩) _ (fun _ _ => True) _ _ () trivial hl (fun i m e K hc hlt hi => ?_) (fun m K _ => ?_)
  · have hr := map_at (f := Ent.c) hc
    have hw := wrap_nat (n := i) (by unfold big at hl; omega)
    have hx : ((4 * (i + 1) : Nat) : Int) = ((4 * i : Nat) : Int) + 4 := mul_at 4 i
    have hi4 : ((4 * i : Nat) : Int) ≤ 2 ^ 39 := by unfold big at hl; omega
    have hp : (0 : Int) ≤ ((4 * i : Nat) : Int) := by omega
    have hf := mrow_at (f := entC) (w := 4) (k := k) hr
    have hs := mrow_set (f := entC) (w := 4) (k := k) hr
    have hlen : i < (mrow entC 4 k (cs.map Ent.c) i).length := by rw [mrow_length (by simp; omega)]; simpa using hlt
    rw [hx]
    generalize ((4 * i : Nat) : Int) = z at *
    have hw2 : IntKind.i64.wrap (k + z + 1) = k + z + 1 := wrap_i64 (by omega) (by omega)
    have hw3 : IntKind.i64.wrap (k + z + 1 + 1) = k + z + 2 := by rw [wrap_i64 (by omega) (by omega)]; omega
    have hw4 : IntKind.i64.wrap (k + z + 2 + 1) = k + z + 3 := by rw [wrap_i64 (by omega) (by omega)]; omega
    have hw5 : IntKind.i64.wrap (k + z + 3 + 1) = k + (z + 4) := by rw [wrap_i64 (by omega) (by omega)]; omega
    have hm := d_markText hD (k + z + 2) (by omega)
    have hnb : ¬ n ≤ b := by omega
    have hset : ∀ r, ((mrow entC 4 k (cs.map Ent.c) i).set i r)[i]? = some r := fun r => List.getElem?_set_self hlen
    simp only [loopN, e_laws_markEntryS_0, B_laws_markEntryS_0, go_sem, Nat.reduceEqDiff, Nat.reduceAdd, reduceIte, reduceCtorEq, Nat.reduceLeDiff, Nat.reduceLT, List.length_map, hr, hlt, hw, hw2, hw3, hw4, hw5, hf, hs, hb, hnb, hm, hset, set_set, low_upd hb, low_low, upd_upd]
  · have hi : ¬ cs.length < cs.length := by omega
    have ha := mrow_all entC 4 k (cs.map Ent.c)
    rw [List.length_map] at ha
    simp only [loopN, e_laws_markEntryS_0, B_laws_markEntryS_0, go_sem, Nat.reduceEqDiff, Nat.reduceAdd, reduceIte, reduceCtorEq, Nat.reduceLeDiff, Nat.reduceLT, List.length_map, hi, ha]
    exact ⟨_, rfl, _, rfl, rfl, rfl, rfl, rfl⟩
theorem d_markEntryS {D : Nat} (hD : 2 ≤ D) (cs : List Ent) (k : Int) (hk : 0 ≤ k ∧ k ≤ 2 ^ 40) (hl : cs.length ≤ big) (h : Hp) (n b c : Nat) (ex : Bool) (hb : b < n) (hh : h b = some ⟨t_impl_Entry, cs.map Ent.c, true, false⟩) :
    dcl pr D f_laws_markEntryS [.ref t_impl_Entry b 0 cs.length c ex, .n k] h n = some ([.n (k + ((4 * cs.length : Nat) : Int))], upd (low n h) b (some ⟨t_impl_Entry, marks entC 4 k cs.length, true, false⟩), n) := by
  obtain ⟨D, rfl, hd⟩ := pred_of hD
  rw [v_laws_markEntryS]
  obtain ⟨out, lo, lp⟩ := lp_markEntryS (D := D) hd cs k hk hl h n b c ex hb
  rw [run_unit] at lp
  obtain ⟨σ', rfl, l2, l3, l4, l5⟩ := lp
  have hnb : ¬ n ≤ b := by omega
  have hu : upd (low n h) b (some ⟨t_impl_Entry, cs.map Ent.c, true, false⟩) = low n h := by
    funext i
    simp only [upd_apply]
    split
    · rename_i e; subst e; rw [low_at hb, hh]
    · rfl
  rw [show k + ((4 * 0 : Nat) : Int) = k by simp, show ((0 : Nat) : Int) = 0 from rfl, mrow_zero, hu] at lo
  simp only [c_laws_markEntryS, go_sem, Nat.reduceEqDiff, Nat.reduceAdd, reduceIte, reduceCtorEq, Nat.reduceLeDiff, Nat.reduceLT, hb, hnb, hh, lo, l2, l3, l4, l5]

theorem lp_heldEntryS {D : Nat} (hD : 1 ≤ D) (m : Nat) (hl : m ≤ big) :
    Ended (loopN (exec ⟨den pr D, dcl pr D⟩ b_laws_heldEntryS_0) [0, 1, 5] rounds ⟨upd (upd (upd (fun _ => .bad) 0 (.lit t_impl_Entry (marks entC 4 1 m))) 1 (.n (1 + ((4 * 0 : Nat) : Int)))) 5 (.n (0 : Nat)), fun _ => none, 0, 0⟩) Unit Unit (runI (fun _ _ _ => .inl ()) 0 () (List.range m))
      (fun _ o => ∃ σ', o = .exit 0 σ' ∧ σ'.s 1 = .n (1 + ((4 * m : Nat) : Int))) (fun _ o => False) := by
  have hm := marks_length entC 4 1 m
  have hrl : (List.range m).length = m := List.length_range
  refine loop_all (List.range m) (fun i (_ : Unit) => ⟨upd (upd (upd (fun _ => .bad) 0 (.lit t_impl_Entry (marks entC 4 1 m))) 1 (.n (1 + ((4 * i : Nat) : Int)))) 5 (.n i), fun _ => none, 0, 0⟩) _ (fun _ _ => True) _ _ () trivial (by omega) (fun i _ e K hc hlt hi => ?_) (fun _ K _ => ?_)
  · have hlt' : i < m := by omega
    have hr := marks_at (f := entC) (w := 4) (k := 1) hlt'
    have hw := wrap_nat (n := i) (by unfold big at hl; omega)
    have hx : ((4 * (i + 1) : Nat) : Int) = ((4 * i : Nat) : Int) + 4 := mul_at 4 i
    have hi4 : ((4 * i : Nat) : Int) ≤ 2 ^ 39 := by unfold big at hl; omega
    have hp : (0 : Int) ≤ ((4 * i : Nat) : Int) := by omega
    rw [hx]
    generalize ((4 * i : Nat) : Int) = z at *
    have hw2 : IntKind.i64.wrap (1 + z + 1) = 1 + z + 1 := wrap_i64 (by omega) (by omega)
    have hw3 : IntKind.i64.wrap (1 + z + 1 + 1) = 1 + z + 2 := by rw [wrap_i64 (by omega) (by omega)]; omega
    have hw4 : IntKind.i64.wrap (1 + z + 2 + 1) = 1 + z + 3 := by rw [wrap_i64 (by omega) (by omega)]; omega
    have hw5 : IntKind.i64.wrap (1 + z + 3 + 1) = 1 + (z + 4) := by rw [wrap_i64 (by omega) (by omega)]; omega
    have hmt := d_markText hD (1 + z + 2) (by omega)
    simp only [loopN, e_laws_heldEntryS_0, B_laws_heldEntryS_0, go_sem, Nat.reduceEqDiff, Nat.reduceAdd, reduceIte, reduceCtorEq, Nat.reduceLeDiff, Nat.reduceLT, hm, hlt', hr, hw, hw2, hw3, hw4, hw5, hmt]
  · have hi : ¬ m < m := by omega
    rw [hrl]
    simp only [loopN, e_laws_heldEntryS_0, B_laws_heldEntryS_0, go_sem, Nat.reduceEqDiff, Nat.reduceAdd, reduceIte, reduceCtorEq, Nat.reduceLeDiff, Nat.reduceLT, hm, hi]
    exact ⟨_, rfl, _, rfl, rfl⟩
theorem d_heldEntryS {D : Nat} (hD : 2 ≤ D) (m : Nat) (hl : m ≤ big) : den pr D f_laws_heldEntryS [.lit t_impl_Entry (marks entC 4 1 m), .n 1] = some [.n (1 + ((4 * m : Nat) : Int))] := by
  obtain ⟨D, rfl, hd⟩ := pred_of hD
  rw [u_laws_heldEntryS]
  obtain ⟨out, lo, lp⟩ := lp_heldEntryS (D := D) hd m hl
  rw [run_unit] at lp
  obtain ⟨σ', rfl, l2⟩ := lp
  rw [show (1 : Int) + ((4 * 0 : Nat) : Int) = 1 from rfl, show ((0 : Nat) : Int) = 0 from rfl] at lo
  simp only [c_laws_heldEntryS, go_sem, Nat.reduceEqDiff, Nat.reduceAdd, reduceIte, reduceCtorEq, Nat.reduceLeDiff, Nat.reduceLT, lo, l2]
end Go.Vm.T
end

section
set_option linter.unusedVariables false
set_option linter.unusedSimpArgs false
namespace Go.Vm.T

/-! ### the rows for which something holds -/
def foundL (P : Val → Bool) (es : List Ent) : List Int := (es.filter fun e => P e.v).map Ent.id
def foundG (P : Val → Bool) : Nat → List Int → Ent → List Int ⊕ Unit := fun _ acc e => .inl (if P e.v then acc ++ [e.id] else acc)
theorem found_run (P : Val → Bool) : ∀ (es : List Ent) (i : Nat) (acc : List Int), runI (foundG P) i acc es = .inl (acc ++ foundL P es)
  | [], i, acc => by simp [runI, foundL]
  | e :: es, i, acc => by
    unfold runI foundG
    simp only
    rw [show (fun _ acc e => Sum.inl (if P e.v then acc ++ [e.id] else acc)) = foundG P from rfl, found_run P es]
    unfold foundL
    by_cases h : P e.v <;> simp [h]
theorem foundL_len (P : Val → Bool) (es : List Ent) : (foundL P es).length ≤ es.length := by
  unfold foundL
  rw [List.length_map]
  exact List.length_filter_le _ _

/-- What a closure holds that the caller's end is closed over. -/
structure PlCaps (cs : List A) : Prop where
  nm : nmIns cs = []
  rn : ∀ base ns, ren1s base ns cs = cs
  ac : areCaps cs = true
  cl : ∀ h, clPtrs h cs = some cs
  np : ∀ h, nmPtrs h cs = []
  cv : ∀ h, clVals h cs = some cs
  nv : ∀ h, nmVals h cs = []
theorem plCaps_nil : PlCaps [] := ⟨rfl, fun _ _ => rfl, rfl, fun _ => rfl, fun _ => rfl, fun _ => rfl, fun _ => rfl⟩
theorem plCaps_cons {r : List A} {j : Nat} {cs : List A} (h : PlCaps cs) : PlCaps (.pl r j :: cs) where
  nm := by simp only [nmIns, nmIn, h.nm, List.nil_append]
  rn base ns := by simp only [ren1s, ren1, h.rn]
  ac := by simp only [areCaps, isCap, h.ac, Bool.and_true]
  cl hp := by simp only [clPtrs, clPtr, bnd, h.cl]
  np hp := by simp only [nmPtrs, nmPtr, h.np, List.nil_append]
  cv hp := by simp only [clVals, clVal, bnd, h.cv]
  nv hp := by simp only [nmVals, nmVal, nmCell, h.nv, List.nil_append]

theorem lp_found {D : Nat} (P : Val → Bool) (f : Nat) (cs : List A) (hc : PlCaps cs) (hf : ∀ v : Val, den pr D f (.agg v.c :: cs) = some [.q (P v)]) (es : List Ent) (hl : es.length ≤ big) :
    Ended (loopN (exec ⟨den pr D, dcl pr D⟩ b_impl_found_0) [1, 5, 11, 12, 13] rounds ⟨upd (upd (upd (upd (upd (fun _ => .bad) 1 (.fn f cs)) 5 (.ref t_int 0 0 ([] : List Int).length ([] : List Int).length false)) 11 (.lit t_impl_Entry (es.map Ent.c))) 12 (.n es.length)) 13 (.n (0 : Nat)), upd (fun _ => none) 0 (some ⟨t_int, ([] : List Int).map intC, true, false⟩), 1, 0⟩) (List Int) Unit (runI (foundG P) 0 [] es)
      (fun acc o => ∃ σ', o = .exit 0 σ' ∧ σ'.s 5 = .ref t_int 0 0 acc.length acc.length false ∧ σ'.h = upd (fun _ => none) 0 (some ⟨t_int, acc.map intC, true, false⟩) ∧ σ'.n = 1 ∧ σ'.base = 0) (fun _ o => False) := by
  refine loop_all es (fun i (acc : List Int) => ⟨upd (upd (upd (upd (upd (fun _ => .bad) 1 (.fn f cs)) 5 (.ref t_int 0 0 acc.length acc.length false)) 11 (.lit t_impl_Entry (es.map Ent.c))) 12 (.n es.length)) 13 (.n i), upd (fun _ => none) 0 (some ⟨t_int, acc.map intC, true, false⟩), 1, 0⟩) _ (fun i acc => acc.length ≤ i) _ _ [] (Nat.le_refl _) hl (fun i acc e K he hlt hi => ?_) (fun acc K _ => ?_)
  · have hr := map_at (f := Ent.c) he
    have hw := wrap_nat (n := i) (by unfold big at hl; omega)
    have hp := hf e.v
    have hb : acc.length + 1 ≤ big := by omega
    have ht : (acc.map intC).take acc.length = acc.map intC := take_map _ _
    have hle : acc.length ≤ (acc.map intC).length := by simp
    simp only [loopN, e_impl_found_0, B_impl_found_0, go_sem, Nat.reduceEqDiff, Nat.reduceAdd, reduceIte, reduceCtorEq, Nat.reduceLeDiff, Nat.reduceLT, hr, hlt, hw, hc.nm, hc.rn, hc.ac, hc.cl, hc.np, hc.cv, hc.nv, hp, foundG]
    cases P e.v with
    | true =>
      simp only [go_sem, Nat.reduceEqDiff, Nat.reduceAdd, reduceIte, reduceCtorEq, Nat.reduceLeDiff, Nat.reduceLT, hw, hb, ht, hle, hc.nm, hc.rn, hc.ac, hc.cl, hc.np, hc.cv, hc.nv, List.length_append, List.map_append]
      first | omega | exact ⟨rfl, by omega⟩
    | false =>
      simp only [go_sem, Nat.reduceEqDiff, Nat.reduceAdd, reduceIte, reduceCtorEq, Nat.reduceLeDiff, Nat.reduceLT, hw, hc.nm, hc.rn, hc.ac, hc.cl, hc.np, hc.cv, hc.nv]
      omega
  · have hi : ¬ es.length < es.length := by omega
    simp only [loopN, e_impl_found_0, B_impl_found_0, go_sem, Nat.reduceEqDiff, Nat.reduceAdd, reduceIte, reduceCtorEq, Nat.reduceLeDiff, Nat.reduceLT, hi]
    exact ⟨_, rfl, _, rfl, rfl, rfl, rfl, rfl⟩
def foundA (P : Val → Bool) (es : List Ent) : List Int := if indexOk es then foundL P es else []
theorem d_found {D : Nat} (hD : 5 ≤ D) (P : Val → Bool) (f : Nat) (cs : List A) (hc : PlCaps cs) (hf : ∀ v : Val, den pr (D - 1) f (.agg v.c :: cs) = some [.q (P v)]) (es : List Ent) (hs : Small es) :
    den pr D f_impl_found [.lit t_impl_Entry (es.map Ent.c), .fn f cs] = some [.olit t_int ((foundA P es).map intC)] := by
  obtain ⟨D, rfl, hd⟩ := pred_of hD
  rw [u_impl_found]
  have hf : ∀ v : Val, den pr D f (.agg v.c :: cs) = some [.q (P v)] := hf
  have h1 := d_IndexOk hd es hs
  unfold foundA
  cases h : indexOk es with
  | false => 
    rw [h] at h1
    simp only [c_impl_found, go_sem, Nat.reduceEqDiff, Nat.reduceAdd, reduceIte, reduceCtorEq, Nat.reduceLeDiff, Nat.reduceLT, h1]
  | true =>
    rw [h] at h1
    obtain ⟨out, lo, lp⟩ := lp_found P f cs hc hf es hs.len
    rw [found_run] at lp
    obtain ⟨σ', rfl, l2, l3, l4, l5⟩ := lp
    rw [List.nil_append] at l2 l3
    rw [show ((0 : Nat) : Int) = 0 from rfl] at lo
    rw [show ([] : List Int).length = 0 from rfl, List.map_nil] at lo
    obtain ⟨D, rfl⟩ : ∃ d, D = d + 1 := ⟨D - 1, by omega⟩
    simp only [c_impl_found, go_sem, Nat.reduceEqDiff, Nat.reduceAdd, reduceIte, reduceCtorEq, Nat.reduceLeDiff, Nat.reduceLT, h1, List.length_map, hc.nm, hc.rn, hc.ac, hc.cl, hc.np, hc.cv, hc.nv, lo, l2, l3, l4, l5, v_slices_Clip_S_int_int, c_slices_Clip_S_int_int, Nat.le_refl, Nat.zero_le, Nat.sub_zero, Option.isSome_some]
theorem d_IndexFind_1 {D : Nat} (hD : 1 ≤ D) (v w : Val) : den pr D f_impl_IndexFind_1 [.agg w.c, .pl v.c 0] = some [.q (decide (w = v))] := by
  obtain ⟨D, rfl, hd⟩ := pred_of hD
  rw [u_impl_IndexFind_1]
  simp only [c_impl_IndexFind_1, go_sem, Nat.reduceEqDiff, Nat.reduceAdd, reduceIte, reduceCtorEq, Nat.reduceLeDiff, Nat.reduceLT, val_eq]
theorem d_IndexFind {D : Nat} (hD : 6 ≤ D) (es : List Ent) (v : Val) (hs : Small es) : den pr D f_impl_IndexFind [.lit t_impl_Entry (es.map Ent.c), .agg v.c] = some [.olit t_int ((foundA (fun w => decide (w = v)) es).map intC)] := by
  obtain ⟨D, rfl, hd⟩ := pred_of hD
  rw [u_impl_IndexFind]
  have h1 := d_found hd (fun w => decide (w = v)) f_impl_IndexFind_1 [.pl v.c 0] (plCaps_cons plCaps_nil) (fun w => d_IndexFind_1 (by omega) v w) es hs
  simp only [c_impl_IndexFind, go_sem, Nat.reduceEqDiff, Nat.reduceAdd, reduceIte, reduceCtorEq, Nat.reduceLeDiff, Nat.reduceLT, h1]
def inSpan (l h v : Val) : Bool := !valLess v l && !valLess h v
theorem d_IndexSpan_1 {D : Nat} (hD : 2 ≤ D) (l h v : Val) : den pr D f_impl_IndexSpan_1 [.agg v.c, .pl l.c 0, .pl h.c 0] = some [.q (inSpan l h v)] := by
  obtain ⟨D, rfl, hd⟩ := pred_of hD
  rw [u_impl_IndexSpan_1]
  have h1 := d_ValLess hd v l
  have h2 := d_ValLess hd h v
  simp only [c_impl_IndexSpan_1, go_sem, Nat.reduceEqDiff, Nat.reduceAdd, reduceIte, reduceCtorEq, Nat.reduceLeDiff, Nat.reduceLT, h1, h2, inSpan]
theorem d_IndexSpan {D : Nat} (hD : 6 ≤ D) (es : List Ent) (l h : Val) (hs : Small es) : den pr D f_impl_IndexSpan [.lit t_impl_Entry (es.map Ent.c), .agg l.c, .agg h.c] = some [.olit t_int ((foundA (inSpan l h) es).map intC)] := by
  obtain ⟨D, rfl, hd⟩ := pred_of hD
  rw [u_impl_IndexSpan]
  have h1 := d_found hd (inSpan l h) f_impl_IndexSpan_1 [.pl l.c 0, .pl h.c 0] (plCaps_cons (plCaps_cons plCaps_nil)) (fun w => d_IndexSpan_1 (by omega) l h w) es hs
  simp only [c_impl_IndexSpan, go_sem, Nat.reduceEqDiff, Nat.reduceAdd, reduceIte, reduceCtorEq, Nat.reduceLeDiff, Nat.reduceLT, h1]
end Go.Vm.T
end

section
set_option linter.unusedVariables false
set_option linter.unusedSimpArgs false
namespace Go.Vm.T

def pairG (P : Val → Bool) : Nat → List Int × Bool → Ent → (List Int × Bool) ⊕ Unit := fun _ p e => .inl (bif P e.v then (p.1 ++ [e.id], false) else p)
theorem pair_run (P : Val → Bool) : ∀ (es : List Ent) (i : Nat) (p : List Int × Bool), ∃ x, runI (pairG P) i p es = .inl (p.1 ++ foundL P es, x)
  | [], i, p => ⟨p.2, by simp [runI, foundL]⟩
  | e :: es, i, p => by
    obtain ⟨x, hx⟩ := pair_run P es (i + 1) (bif P e.v then (p.1 ++ [e.id], false) else p)
    refine ⟨x, ?_⟩
    unfold runI pairG
    simp only
    rw [show (fun _ p e => Sum.inl (bif P e.v then (p.1 ++ [e.id], false) else p)) = pairG P from rfl, hx]
    unfold foundL
    by_cases h : P e.v <;> simp [h]
theorem lp_spec_IndexFind {D : Nat} (hD : 3 ≤ D) (v : Val) (es : List Ent) (hs : Small es) (h : indexOk es = true) :
    Ended (loopN (exec ⟨den pr D, dcl pr D⟩ b_spec_IndexFind_0) [0, 3, 5, 6] rounds ⟨upd (upd (upd (upd (fun _ => .bad) 0 (.lit t_impl_Entry (es.map Ent.c))) 3 (.ptr 0 0 0)) 5 (.ref t_int 1 0 ([] : List Int).length ([] : List Int).length true)) 6 (.n (0 : Nat)), upd (upd (fun _ => none) 0 (some ⟨t_impl_Val, [v.c], true, true⟩)) 1 (some ⟨t_int, ([] : List Int).map intC, true, false⟩), 2, 0⟩) (List Int × Bool) Unit (runI (pairG fun w => decide (w = v)) 0 ([], true) es)
      (fun p o => ∃ σ', o = .exit 0 σ' ∧ σ'.s 5 = .ref t_int 1 0 p.1.length p.1.length p.2 ∧ σ'.h 1 = some ⟨t_int, p.1.map intC, true, false⟩) (fun _ o => False) := by
  refine loop_all es (fun i (p : List Int × Bool) => ⟨upd (upd (upd (upd (fun _ => .bad) 0 (.lit t_impl_Entry (es.map Ent.c))) 3 (.ptr 0 0 0)) 5 (.ref t_int 1 0 p.1.length p.1.length p.2)) 6 (.n i), upd (upd (fun _ => none) 0 (some ⟨t_impl_Val, [v.c], true, true⟩)) 1 (some ⟨t_int, p.1.map intC, true, false⟩), 2, 0⟩) _ (fun i p => p.1.length ≤ i) _ _ ([], true) (Nat.le_refl _) hs.len (fun i p e K he hlt hi => ?_) (fun acc K _ => ?_)
  · obtain ⟨acc, x⟩ := p
    have hl := hs.len
    simp only at hi
    have hr := map_at (f := Ent.c) he
    have hw := wrap_nat (n := i) (by unfold big at hl; omega)
    have h1 := d_spec_IndexOk hD es hs
    rw [h] at h1
    have hb : acc.length + 1 ≤ big := by omega
    have ht : (acc.map intC).take acc.length = acc.map intC := take_map _ _
    have hle : acc.length ≤ (acc.map intC).length := by simp
    simp only [loopN, e_spec_IndexFind_0, B_spec_IndexFind_0, go_sem, Nat.reduceEqDiff, Nat.reduceAdd, reduceIte, reduceCtorEq, Nat.reduceLeDiff, Nat.reduceLT, List.length_map, hr, hlt, hw, h1, val_eq, pairG]
    generalize decide (e.v = v) = q
    cases q with
    | true =>
      simp only [go_sem, Nat.reduceEqDiff, Nat.reduceAdd, reduceIte, reduceCtorEq, Nat.reduceLeDiff, Nat.reduceLT, hw, hr, hb, ht, hle, Nat.le_refl, List.length_append, List.map_append]
      first | omega | exact ⟨rfl, by omega⟩
    | false =>
      simp only [go_sem, Nat.reduceEqDiff, Nat.reduceAdd, reduceIte, reduceCtorEq, Nat.reduceLeDiff, Nat.reduceLT, hw]
      first | omega | exact ⟨rfl, by omega⟩
  · have hi : ¬ es.length < es.length := by omega
    have h1 := d_spec_IndexOk hD es hs
    rw [h] at h1
    simp only [loopN, e_spec_IndexFind_0, B_spec_IndexFind_0, go_sem, Nat.reduceEqDiff, Nat.reduceAdd, reduceIte, reduceCtorEq, Nat.reduceLeDiff, Nat.reduceLT, List.length_map, hi, h1]
    exact ⟨_, rfl, _, rfl, rfl, rfl⟩
theorem lp_spec_IndexFindN {D : Nat} (hD : 3 ≤ D) (v : Val) (es : List Ent) (hs : Small es) (h : indexOk es = false) :
    Ended (loopN (exec ⟨den pr D, dcl pr D⟩ b_spec_IndexFind_0) [0, 3, 5, 6] rounds ⟨upd (upd (upd (upd (fun _ => .bad) 0 (.lit t_impl_Entry (es.map Ent.c))) 3 (.ptr 0 0 0)) 5 (.ref t_int 1 0 0 0 true)) 6 (.n (0 : Nat)), upd (upd (fun _ => none) 0 (some ⟨t_impl_Val, [v.c], true, true⟩)) 1 (some ⟨t_int, [], true, false⟩), 2, 0⟩) Unit Unit (runI (fun _ _ (_ : Unit) => .inl ()) 0 () [])
      (fun p o => ∃ σ', o = .exit 0 σ' ∧ σ'.s 5 = .ref t_int 1 0 0 0 true ∧ σ'.h 1 = some ⟨t_int, [], true, false⟩) (fun _ o => False) := by
  refine loop_all [] (fun i (p : Unit) => ⟨upd (upd (upd (upd (fun _ => .bad) 0 (.lit t_impl_Entry (es.map Ent.c))) 3 (.ptr 0 0 0)) 5 (.ref t_int 1 0 0 0 true)) 6 (.n i), upd (upd (fun _ => none) 0 (some ⟨t_impl_Val, [v.c], true, true⟩)) 1 (some ⟨t_int, [], true, false⟩), 2, 0⟩) _ (fun i p => True) _ _ () trivial (by decide) (fun i p e K he hlt hi => nomatch hlt) (fun acc K _ => ?_)
  have h1 := d_spec_IndexOk hD es hs
  rw [h] at h1
  rw [show ([] : List Unit).length = 0 from rfl]
  by_cases hz : 0 < es.length
  · simp only [loopN, e_spec_IndexFind_0, B_spec_IndexFind_0, go_sem, Nat.reduceEqDiff, Nat.reduceAdd, reduceIte, reduceCtorEq, Nat.reduceLeDiff, Nat.reduceLT, List.length_map, h1, hz]
    exact ⟨_, rfl, _, rfl, rfl, rfl⟩
  · simp only [loopN, e_spec_IndexFind_0, B_spec_IndexFind_0, go_sem, Nat.reduceEqDiff, Nat.reduceAdd, reduceIte, reduceCtorEq, Nat.reduceLeDiff, Nat.reduceLT, List.length_map, h1, hz]
    exact ⟨_, rfl, _, rfl, rfl, rfl⟩
theorem d_spec_IndexFind {D : Nat} (hD : 4 ≤ D) (es : List Ent) (v : Val) (hs : Small es) : den pr D f_spec_IndexFind [.lit t_impl_Entry (es.map Ent.c), .agg v.c] = some [.olit t_int ((foundA (fun w => decide (w = v)) es).map intC)] := by
  obtain ⟨D, rfl, hd⟩ := pred_of hD
  rw [u_spec_IndexFind]
  unfold foundA
  cases h : indexOk es with
  | true =>
    obtain ⟨out, lo, lp⟩ := lp_spec_IndexFind hd v es hs h
    obtain ⟨x, hx⟩ := pair_run (fun w => decide (w = v)) es 0 ([], true)
    rw [hx] at lp
    obtain ⟨σ', rfl, l2, l3⟩ := lp
    rw [List.nil_append] at l2 l3
    rw [show ((0 : Nat) : Int) = 0 from rfl, show ([] : List Int).length = 0 from rfl, List.map_nil] at lo
    simp only [c_spec_IndexFind, go_sem, Nat.reduceEqDiff, Nat.reduceAdd, reduceIte, reduceCtorEq, Nat.reduceLeDiff, Nat.reduceLT, List.length_map, lo, l2, l3, Nat.le_refl]
  | false =>
    obtain ⟨out, lo, lp⟩ := lp_spec_IndexFindN hd v es hs h
    obtain ⟨σ', rfl, l2, l3⟩ := lp
    rw [show ((0 : Nat) : Int) = 0 from rfl] at lo
    simp only [c_spec_IndexFind, go_sem, Nat.reduceEqDiff, Nat.reduceAdd, reduceIte, reduceCtorEq, Nat.reduceLeDiff, Nat.reduceLT, List.length_map, lo, l2, l3, Nat.le_refl, List.map_nil]

/-! ### spans -/
theorem lp_spec_IndexSpan {D : Nat} (hD : 3 ≤ D) (l r : Val) (es : List Ent) (hs : Small es) (h : indexOk es = true) :
    Ended (loopN (exec ⟨den pr D, dcl pr D⟩ b_spec_IndexSpan_0) [0, 4, 5, 7, 8] rounds ⟨upd (upd (upd (upd (upd (fun _ => .bad) 0 (.lit t_impl_Entry (es.map Ent.c))) 4 (.ptr 0 0 0)) 5 (.ptr 1 0 0)) 7 (.ref t_int 2 0 ([] : List Int).length ([] : List Int).length true)) 8 (.n (0 : Nat)), upd (upd (upd (fun _ => none) 0 (some ⟨t_impl_Val, [l.c], true, true⟩)) 1 (some ⟨t_impl_Val, [r.c], true, true⟩)) 2 (some ⟨t_int, ([] : List Int).map intC, true, false⟩), 3, 0⟩) (List Int × Bool) Unit (runI (pairG (inSpan l r)) 0 ([], true) es)
      (fun p o => ∃ σ', o = .exit 0 σ' ∧ σ'.s 7 = .ref t_int 2 0 p.1.length p.1.length p.2 ∧ σ'.h 2 = some ⟨t_int, p.1.map intC, true, false⟩) (fun _ o => False) := by
  refine loop_all es (fun i (p : List Int × Bool) => ⟨upd (upd (upd (upd (upd (fun _ => .bad) 0 (.lit t_impl_Entry (es.map Ent.c))) 4 (.ptr 0 0 0)) 5 (.ptr 1 0 0)) 7 (.ref t_int 2 0 p.1.length p.1.length p.2)) 8 (.n i), upd (upd (upd (fun _ => none) 0 (some ⟨t_impl_Val, [l.c], true, true⟩)) 1 (some ⟨t_impl_Val, [r.c], true, true⟩)) 2 (some ⟨t_int, p.1.map intC, true, false⟩), 3, 0⟩) _ (fun i p => p.1.length ≤ i) _ _ ([], true) (Nat.le_refl _) hs.len (fun i p e K he hlt hi => ?_) (fun acc K _ => ?_)
  · obtain ⟨acc, x⟩ := p
    have hl := hs.len
    simp only at hi
    have hr := map_at (f := Ent.c) he
    have hw := wrap_nat (n := i) (by unfold big at hl; omega)
    have h1 := d_spec_IndexOk hD es hs
    rw [h] at h1
    have hb : acc.length + 1 ≤ big := by omega
    have ht : (acc.map intC).take acc.length = acc.map intC := take_map _ _
    have hle : acc.length ≤ (acc.map intC).length := by simp
    have hv1 := d_spec_ValLess (show 1 ≤ D by omega) e.v l
    have hv2 := d_spec_ValLess (show 1 ≤ D by omega) r e.v
    have hq : (!valLess e.v l && !valLess r e.v) = inSpan l r e.v := rfl
    simp only [loopN, e_spec_IndexSpan_0, B_spec_IndexSpan_0, go_sem, Nat.reduceEqDiff, Nat.reduceAdd, reduceIte, reduceCtorEq, Nat.reduceLeDiff, Nat.reduceLT, List.length_map, hr, hlt, hw, h1, hv1, hv2, hq, pairG]
    generalize inSpan l r e.v = q
    cases q with
    | true =>
      simp only [go_sem, Nat.reduceEqDiff, Nat.reduceAdd, reduceIte, reduceCtorEq, Nat.reduceLeDiff, Nat.reduceLT, hw, hr, hb, ht, hle, Nat.le_refl, List.length_append, List.map_append]
      first | omega | exact ⟨rfl, by omega⟩
    | false =>
      simp only [go_sem, Nat.reduceEqDiff, Nat.reduceAdd, reduceIte, reduceCtorEq, Nat.reduceLeDiff, Nat.reduceLT, hw]
      first | omega | exact ⟨rfl, by omega⟩
  · have hi : ¬ es.length < es.length := by omega
    have h1 := d_spec_IndexOk hD es hs
    rw [h] at h1
    simp only [loopN, e_spec_IndexSpan_0, B_spec_IndexSpan_0, go_sem, Nat.reduceEqDiff, Nat.reduceAdd, reduceIte, reduceCtorEq, Nat.reduceLeDiff, Nat.reduceLT, List.length_map, hi, h1]
    exact ⟨_, rfl, _, rfl, rfl, rfl⟩
theorem lp_spec_IndexSpanN {D : Nat} (hD : 3 ≤ D) (l r : Val) (es : List Ent) (hs : Small es) (h : indexOk es = false) :
    Ended (loopN (exec ⟨den pr D, dcl pr D⟩ b_spec_IndexSpan_0) [0, 4, 5, 7, 8] rounds ⟨upd (upd (upd (upd (upd (fun _ => .bad) 0 (.lit t_impl_Entry (es.map Ent.c))) 4 (.ptr 0 0 0)) 5 (.ptr 1 0 0)) 7 (.ref t_int 2 0 0 0 true)) 8 (.n (0 : Nat)), upd (upd (upd (fun _ => none) 0 (some ⟨t_impl_Val, [l.c], true, true⟩)) 1 (some ⟨t_impl_Val, [r.c], true, true⟩)) 2 (some ⟨t_int, [], true, false⟩), 3, 0⟩) Unit Unit (runI (fun _ _ (_ : Unit) => .inl ()) 0 () [])
      (fun p o => ∃ σ', o = .exit 0 σ' ∧ σ'.s 7 = .ref t_int 2 0 0 0 true ∧ σ'.h 2 = some ⟨t_int, [], true, false⟩) (fun _ o => False) := by
  refine loop_all [] (fun i (p : Unit) => ⟨upd (upd (upd (upd (upd (fun _ => .bad) 0 (.lit t_impl_Entry (es.map Ent.c))) 4 (.ptr 0 0 0)) 5 (.ptr 1 0 0)) 7 (.ref t_int 2 0 0 0 true)) 8 (.n i), upd (upd (upd (fun _ => none) 0 (some ⟨t_impl_Val, [l.c], true, true⟩)) 1 (some ⟨t_impl_Val, [r.c], true, true⟩)) 2 (some ⟨t_int, [], true, false⟩), 3, 0⟩) _ (fun i p => True) _ _ () trivial (by decide) (fun i p e K he hlt hi => nomatch hlt) (fun acc K _ => ?_)
  have h1 := d_spec_IndexOk hD es hs
  rw [h] at h1
  rw [show ([] : List Unit).length = 0 from rfl]
  by_cases hz : 0 < es.length
  · simp only [loopN, e_spec_IndexSpan_0, B_spec_IndexSpan_0, go_sem, Nat.reduceEqDiff, Nat.reduceAdd, reduceIte, reduceCtorEq, Nat.reduceLeDiff, Nat.reduceLT, List.length_map, h1, hz]
    exact ⟨_, rfl, _, rfl, rfl, rfl⟩
  · simp only [loopN, e_spec_IndexSpan_0, B_spec_IndexSpan_0, go_sem, Nat.reduceEqDiff, Nat.reduceAdd, reduceIte, reduceCtorEq, Nat.reduceLeDiff, Nat.reduceLT, List.length_map, h1, hz]
    exact ⟨_, rfl, _, rfl, rfl, rfl⟩
theorem d_spec_IndexSpan {D : Nat} (hD : 4 ≤ D) (es : List Ent) (l r : Val) (hs : Small es) : den pr D f_spec_IndexSpan [.lit t_impl_Entry (es.map Ent.c), .agg l.c, .agg r.c] = some [.olit t_int ((foundA (inSpan l r) es).map intC)] := by
  obtain ⟨D, rfl, hd⟩ := pred_of hD
  rw [u_spec_IndexSpan]
  unfold foundA
  cases h : indexOk es with
  | true =>
    obtain ⟨out, lo, lp⟩ := lp_spec_IndexSpan hd l r es hs h
    obtain ⟨x, hx⟩ := pair_run (inSpan l r) es 0 ([], true)
    rw [hx] at lp
    obtain ⟨σ', rfl, l2, l3⟩ := lp
    rw [List.nil_append] at l2 l3
    rw [show ((0 : Nat) : Int) = 0 from rfl, show ([] : List Int).length = 0 from rfl, List.map_nil] at lo
    simp only [c_spec_IndexSpan, go_sem, Nat.reduceEqDiff, Nat.reduceAdd, reduceIte, reduceCtorEq, Nat.reduceLeDiff, Nat.reduceLT, List.length_map, lo, l2, l3, Nat.le_refl]
  | false =>
    obtain ⟨out, lo, lp⟩ := lp_spec_IndexSpanN hd l r es hs h
    obtain ⟨σ', rfl, l2, l3⟩ := lp
    rw [show ((0 : Nat) : Int) = 0 from rfl] at lo
    simp only [c_spec_IndexSpan, go_sem, Nat.reduceEqDiff, Nat.reduceAdd, reduceIte, reduceCtorEq, Nat.reduceLeDiff, Nat.reduceLT, List.length_map, lo, l2, l3, Nat.le_refl, List.map_nil]
end Go.Vm.T
end

section
set_option linter.unusedVariables false
set_option linter.unusedSimpArgs false
namespace Go.Vm.T

theorem foundA_len (P : Val → Bool) (es : List Ent) : (foundA P es).length ≤ es.length := by
  unfold foundA
  split
  · exact foundL_len P es
  · simp
theorem rowsSl_int (es : List Int) : rowsSl (es.map intC) = false := rowsSl_map _ (fun _ => rfl) es
theorem rowsSl_marks (f : Int → List A) (h : ∀ x, rowSl (f x) = false) (w : Nat) (k : Int) (n : Nat) : rowsSl (marks f w k n) = false := by
  unfold marks
  exact rowsSl_map _ (fun _ => h _) _
theorem take_marks (f : Int → List A) (w : Nat) (k : Int) (n : Nat) : (marks f w k n).take n = marks f w k n := List.take_of_length_le (by rw [marks_length]; exact Nat.le_refl _)

theorem d_FnExactIndexFind {D : Nat} (hD : 7 ≤ D) (es : List Ent) (v : Val) (hf : Fit es) (hv : v.t.size ≤ maxLen) : den pr D f_laws_FnExactIndexFind [.lit t_laws_Entry (es.map Ent.c), .agg v.c] = some [.q true] := by
  obtain ⟨D, rfl, hd⟩ := pred_of hD
  rw [u_laws_FnExactIndexFind]
  have h1 := d_szEntryS (show 3 ≤ D by omega) es 1048576 (by decide) (by decide) hf.len hf.txt
  by_cases h : szList entW 1048576 es < 0
  · simp only [c_laws_FnExactIndexFind, go_sem, Nat.reduceEqDiff, Nat.reduceAdd, reduceIte, reduceCtorEq, Nat.reduceLeDiff, Nat.reduceLT, h1, h]
  · have hs := small_of (by decide) (by decide) h
    have hle := (szList_ok (by decide) h).1
    have h1v := d_szVal (show 1 ≤ D by omega) v _ (by omega) hle hv
    by_cases h' : dec (szList entW 1048576 es) v.t.size < 0
    · simp only [c_laws_FnExactIndexFind, go_sem, Nat.reduceEqDiff, Nat.reduceAdd, reduceIte, reduceCtorEq, Nat.reduceLeDiff, Nat.reduceLT, h1, h, h1v, h']
    · have h2 := d_toEntryS (show 3 ≤ D by omega) es hs.len
      have h2v := d_toVal (show 1 ≤ D by omega) v
      have h3 := d_spec_IndexFind (show 4 ≤ D by omega) es v hs
      have h4 := d_IndexFind (show 6 ≤ D by omega) es v hs
      have h5 := d_eqEntryS (show 3 ≤ D by omega) es hs.len
      have hfl := Nat.le_trans (foundA_len (fun w => decide (w = v)) es) hs.len
      have h6 := d_eqIntS (show 1 ≤ D by omega) _ hfl
      have h7 := fun h n b c ex => d_markEntryS (show 2 ≤ D by omega) es 1 (by decide) hs.len h n b c ex
      have h8 := fun h n b c ex => d_markIntS (show 1 ≤ D by omega) _ 1 (by decide) hfl h n b c ex
      have h9 := d_heldIntS (show 1 ≤ D by omega) _ hfl
      have hb1 : ¬ (1 + ((4 * es.length : Nat) : Int) < 0) := by omega
      have hb2 : ∀ n : Nat, ¬ (1 + (n : Int) < 0) := by omega
      generalize foundA (fun w => decide (w = v)) es = fs at *
      simp only [c_laws_FnExactIndexFind, go_sem, Nat.reduceEqDiff, Nat.reduceAdd, reduceIte, reduceCtorEq, Nat.reduceLeDiff, Nat.reduceLT, h1, h, h1v, h', h2, h2v, h3, h4, h5, h6, h7, h8, h9, hb1, hb2, List.length_map, Nat.le_refl, take_map, rowsSl_ent, rowsSl_int, rowsSl_marks, take_marks, marks_length, low_upd, low_none]

theorem d_FnExactIndexSpan {D : Nat} (hD : 7 ≤ D) (es : List Ent) (v u : Val) (hf : Fit es) (hv : v.t.size ≤ maxLen) (hu : u.t.size ≤ maxLen) : den pr D f_laws_FnExactIndexSpan [.lit t_laws_Entry (es.map Ent.c), .agg v.c, .agg u.c] = some [.q true] := by
  obtain ⟨D, rfl, hd⟩ := pred_of hD
  rw [u_laws_FnExactIndexSpan]
  have h1 := d_szEntryS (show 3 ≤ D by omega) es 1048576 (by decide) (by decide) hf.len hf.txt
  by_cases h : szList entW 1048576 es < 0
  · simp only [c_laws_FnExactIndexSpan, go_sem, Nat.reduceEqDiff, Nat.reduceAdd, reduceIte, reduceCtorEq, Nat.reduceLeDiff, Nat.reduceLT, h1, h]
  · have hs := small_of (by decide) (by decide) h
    have hle := (szList_ok (by decide) h).1
    have h1v := d_szVal (show 1 ≤ D by omega) v _ (by omega) hle hv
    by_cases h' : dec (szList entW 1048576 es) v.t.size < 0
    · simp only [c_laws_FnExactIndexSpan, go_sem, Nat.reduceEqDiff, Nat.reduceAdd, reduceIte, reduceCtorEq, Nat.reduceLeDiff, Nat.reduceLT, h1, h, h1v, h']
    · have hle' := dec_ok h'
      have h1u := d_szVal (show 1 ≤ D by omega) u (dec (szList entW 1048576 es) v.t.size) (by omega) (by unfold cap at *; omega) hu
      by_cases h'' : dec (dec (szList entW 1048576 es) v.t.size) u.t.size < 0
      · simp only [c_laws_FnExactIndexSpan, go_sem, Nat.reduceEqDiff, Nat.reduceAdd, reduceIte, reduceCtorEq, Nat.reduceLeDiff, Nat.reduceLT, h1, h, h1v, h', h1u, h'']
      · have h2 := d_toEntryS (show 3 ≤ D by omega) es hs.len
        have h2v := d_toVal (show 1 ≤ D by omega) v
        have h2u := d_toVal (show 1 ≤ D by omega) u
        have h3 := d_spec_IndexSpan (show 4 ≤ D by omega) es v u hs
        have h4 := d_IndexSpan (show 6 ≤ D by omega) es v u hs
        have h5 := d_eqEntryS (show 3 ≤ D by omega) es hs.len
        have hfl := Nat.le_trans (foundA_len (inSpan v u) es) hs.len
        have h6 := d_eqIntS (show 1 ≤ D by omega) _ hfl
        have h7 := fun h n b c ex => d_markEntryS (show 2 ≤ D by omega) es 1 (by decide) hs.len h n b c ex
        have h8 := fun h n b c ex => d_markIntS (show 1 ≤ D by omega) _ 1 (by decide) hfl h n b c ex
        have h9 := d_heldIntS (show 1 ≤ D by omega) _ hfl
        have hb1 : ¬ (1 + ((4 * es.length : Nat) : Int) < 0) := by omega
        have hb2 : ∀ n : Nat, ¬ (1 + (n : Int) < 0) := by omega
        generalize foundA (inSpan v u) es = fs at *
        simp only [c_laws_FnExactIndexSpan, go_sem, Nat.reduceEqDiff, Nat.reduceAdd, reduceIte, reduceCtorEq, Nat.reduceLeDiff, Nat.reduceLT, h1, h, h1v, h', h1u, h'', h2, h2v, h2u, h3, h4, h5, h6, h7, h8, h9, hb1, hb2, List.length_map, Nat.le_refl, take_map, rowsSl_ent, rowsSl_int, rowsSl_marks, take_marks, marks_length, low_upd, low_none]
end Go.Vm.T
end
