/-
  What the functions under the law compute, of marks, columns, conditions
-/
import Derived.Test.YtcceojmajfinpaaGreatDoorFnsA
section
set_option linter.unusedVariables false
set_option linter.unusedSectionVars false
set_option linter.unusedSimpArgs false
namespace Go.Vm.T
variable [Pr0]
theorem low_upd {n b : Nat} (hb : b < n) (h : Hp) (x : Option Blk) : low n (upd h b x) = upd (low n h) b x := by
  funext i
  simp only [low, upd_apply]
  by_cases h1 : i = b
  · subst h1; simp [hb]
  · simp [h1]
theorem low_low (n : Nat) (h : Hp) : low n (low n h) = low n h := by
  funext i
  simp only [low]
  split <;> simp_all
theorem low_at {n b : Nat} (hb : b < n) (h : Hp) : low n h b = h b := by simp [low, hb]
theorem upd_upd {α : Type} (f : Nat → α) (k : Nat) (x y : α) : upd (upd f k x) k y = upd f k y := by
  funext i
  simp only [upd_apply]
  split <;> rfl
def mrow (f : Int → List A) (w : Nat) (k : Int) (cs : List (List A)) (i : Nat) : List (List A) := (List.range i).map (fun j => f (k + ((w * j : Nat) : Int))) ++ cs.drop i
theorem mrow_zero (f : Int → List A) (w : Nat) (k : Int) (cs : List (List A)) : mrow f w k cs 0 = cs := by simp [mrow]
theorem mrow_at {f : Int → List A} {w : Nat} {k : Int} {cs : List (List A)} {i : Nat} {c : List A} (h : cs[i]? = some c) : (mrow f w k cs i)[i]? = some c := by
  unfold mrow
  rw [List.getElem?_append_right (by simp)]
  simp [h]
theorem mrow_set {f : Int → List A} {w : Nat} {k : Int} {cs : List (List A)} {i : Nat} {c : List A} (h : cs[i]? = some c) : (mrow f w k cs i).set i (f (k + ((w * i : Nat) : Int))) = mrow f w k cs (i + 1) := by
  have hlt := (List.getElem?_eq_some_iff.1 h).1
  unfold mrow
  rw [List.set_append_right _ _ (by simp)]
  simp only [List.length_map, List.length_range, Nat.sub_self]
  rw [List.drop_eq_getElem_cons hlt, List.set_cons_zero, List.range_succ, List.map_append, List.append_assoc]
  rfl
theorem mrow_length {f : Int → List A} {w : Nat} {k : Int} {cs : List (List A)} {i : Nat} (h : i ≤ cs.length) : (mrow f w k cs i).length = cs.length := by simp [mrow]; omega
def marks (f : Int → List A) (w : Nat) (k : Int) (n : Nat) : List (List A) := (List.range n).map fun j => f (k + ((w * j : Nat) : Int))
theorem mrow_all (f : Int → List A) (w : Nat) (k : Int) (cs : List (List A)) : mrow f w k cs cs.length = marks f w k cs.length := by simp [mrow, marks]
theorem marks_length (f : Int → List A) (w : Nat) (k : Int) (n : Nat) : (marks f w k n).length = n := by simp [marks]
theorem marks_at {f : Int → List A} {w : Nat} {k : Int} {n i : Nat} (h : i < n) : (marks f w k n)[i]? = some (f (k + ((w * i : Nat) : Int))) := by
  unfold marks
  rw [List.getElem?_map, List.getElem?_range h]
  rfl
abbrev intC (x : Int) : List A := [.n x]
theorem lp_markIntS {D : Nat} (cs : List Int) (k : Int) (hk : 0 ≤ k ∧ k ≤ 2 ^ 40) (hl : cs.length ≤ big) (h : Hp) (n b c : Nat) (ex : Bool) (hb : b < n) :
    Ended (loopN (exec ⟨den pr D, dcl pr D⟩ b_q13_0) [0, 1, 5] rounds ⟨upd (upd (upd (fun _ => .bad) 0 (.ref t_int b 0 cs.length c ex)) 1 (.n k)) 5 (.n (0 : Nat)), upd (low n h) b (some ⟨t_int, mrow intC 1 k (cs.map intC) 0, true, false⟩), n, n⟩) Unit Unit (runI (fun _ _ _ => .inl ()) 0 () cs)
      (fun m o => ∃ σ', o = .exit 0 σ' ∧ σ'.s 1 = .n (k + cs.length) ∧ σ'.h = upd (low n h) b (some ⟨t_int, marks intC 1 k cs.length, true, false⟩) ∧ σ'.n = n ∧ σ'.base = n) (fun _ o => False) := by
  have h0 : k = k + ((0 : Nat) : Int) := by simp
  rw [show (upd (upd (upd (fun _ => A.bad) 0 (.ref t_int b 0 cs.length c ex)) 1 (.n k)) 5 (.n (0 : Nat))) = (upd (upd (upd (fun _ => A.bad) 0 (.ref t_int b 0 cs.length c ex)) 1 (.n (k + ((0 : Nat) : Int)))) 5 (.n (0 : Nat))) by rw [← h0]]
  refine loop_all cs (fun i (_ : Unit) => ⟨upd (upd (upd (fun _ => .bad) 0 (.ref t_int b 0 cs.length c ex)) 1 (.n (k + (i : Int)))) 5 (.n i), upd (low n h) b (some ⟨t_int, mrow intC 1 k (cs.map intC) i, true, false⟩), n, n⟩) _ (fun _ _ => True) _ _ () trivial hl (fun i m e K hc hlt hi => ?_) (fun m K _ => ?_)
  · have hr := map_at (f := intC) hc
    have hw := wrap_nat (n := i) (by unfold big at hl; omega)
    have hw2 : IntKind.i64.wrap (k + (i : Int) + 1) = k + ((i + 1 : Nat) : Int) := by rw [wrap_i64 (by omega) (by unfold big at hl; omega)]; omega
    have hf := mrow_at (f := intC) (w := 1) (k := k) hr
    have hs := mrow_set (f := intC) (w := 1) (k := k) hr
    rw [Nat.one_mul] at hs
    have hnb : ¬ n ≤ b := by omega
    simp only [loopN, e_q13_0, B_q13_0, go_sem, List.length_map, hr, hlt, hw, hw2, hf, hs, hb, hnb, low_upd hb, low_low, upd_upd]
  · have hi : ¬ cs.length < cs.length := by omega
    have ha := mrow_all intC 1 k (cs.map intC)
    rw [List.length_map] at ha
    simp only [loopN, e_q13_0, B_q13_0, go_sem, List.length_map, hi, ha]
    exact ⟨_, rfl, _, rfl, rfl, rfl, rfl, rfl⟩
theorem d_markIntS {D : Nat} (hD : 1 ≤ D) (cs : List Int) (k : Int) (hk : 0 ≤ k ∧ k ≤ 2 ^ 40) (hl : cs.length ≤ big) (h : Hp) (n b c : Nat) (ex : Bool) (hb : b < n) (hh : h b = some ⟨t_int, cs.map intC, true, false⟩) :
    dcl pr D f_q13 [.ref t_int b 0 cs.length c ex, .n k] h n = some ([.n (k + cs.length)], upd (low n h) b (some ⟨t_int, marks intC 1 k cs.length, true, false⟩), n) := by
  obtain ⟨D, rfl, hd⟩ := pred_of hD
  rw [v_q13]
  obtain ⟨out, lo, lp⟩ := lp_markIntS (D := D) cs k hk hl h n b c ex hb
  rw [run_unit] at lp
  obtain ⟨σ', rfl, l2, l3, l4, l5⟩ := lp
  have hnb : ¬ n ≤ b := by omega
  have hu : upd (low n h) b (some ⟨t_int, cs.map intC, true, false⟩) = low n h := by
    funext i
    simp only [upd_apply]
    split
    · rename_i e; subst e; rw [low_at hb, hh]
    · rfl
  rw [show ((0 : Nat) : Int) = 0 from rfl, mrow_zero, hu] at lo
  simp only [c_q13, go_sem, hb, hnb, hh, lo, l2, l3, l4, l5]
theorem lp_heldIntS {D : Nat} (m : Nat) (hl : m ≤ big) :
    Ended (loopN (exec ⟨den pr D, dcl pr D⟩ b_q14_0) [0, 1, 5] rounds ⟨upd (upd (upd (fun _ => .bad) 0 (.lit t_int (marks intC 1 1 m))) 1 (.n (1 + ((0 : Nat) : Int)))) 5 (.n (0 : Nat)), fun _ => none, 0, 0⟩) Unit Unit (runI (fun _ _ _ => .inl ()) 0 () (List.range m))
      (fun _ o => ∃ σ', o = .exit 0 σ' ∧ σ'.s 1 = .n (1 + m)) (fun _ o => False) := by
  have hm := marks_length intC 1 1 m
  have hrl : (List.range m).length = m := List.length_range
  refine loop_all (List.range m) (fun i (_ : Unit) => ⟨upd (upd (upd (fun _ => .bad) 0 (.lit t_int (marks intC 1 1 m))) 1 (.n (1 + (i : Int)))) 5 (.n i), fun _ => none, 0, 0⟩) _ (fun _ _ => True) _ _ () trivial (by omega) (fun i _ e K hc hlt hi => ?_) (fun _ K _ => ?_)
  · have hlt' : i < m := by omega
    have hr := marks_at (f := intC) (w := 1) (k := 1) hlt'
    rw [Nat.one_mul] at hr
    have hw := wrap_nat (n := i) (by unfold big at hl; omega)
    have hw2 : IntKind.i64.wrap (1 + (i : Int) + 1) = 1 + ((i + 1 : Nat) : Int) := by rw [wrap_i64 (by omega) (by unfold big at hl; omega)]; omega
    simp only [loopN, e_q14_0, B_q14_0, go_sem, hm, hlt', hr, hw, hw2]
  · have hi : ¬ m < m := by omega
    rw [hrl]
    simp only [loopN, e_q14_0, B_q14_0, go_sem, hm, hi]
    exact ⟨_, rfl, _, rfl, rfl⟩
theorem d_heldIntS {D : Nat} (hD : 1 ≤ D) (m : Nat) (hl : m ≤ big) : den pr D f_q14 [.lit t_int (marks intC 1 1 m), .n 1] = some [.n (1 + m)] := by
  obtain ⟨D, rfl, hd⟩ := pred_of hD
  rw [u_q14]
  obtain ⟨out, lo, lp⟩ := lp_heldIntS (D := D) m hl
  rw [run_unit] at lp
  obtain ⟨σ', rfl, l2⟩ := lp
  rw [show (1 : Int) + ((0 : Nat) : Int) = 1 from rfl, show ((0 : Nat) : Int) = 0 from rfl] at lo
  simp only [c_q14, go_sem, lo, l2]
theorem lp_eqIntS {D : Nat} (es : List Int) (hl : es.length ≤ big) :
    Ended (loopN (exec ⟨den pr D, dcl pr D⟩ b_laws_eqIntS_0) [0, 1, 5] rounds ⟨upd (upd (upd (fun _ => .bad) 0 (.lit t_int (es.map intC))) 1 (.lit t_int (es.map intC))) 5 (.n (0 : Nat)), fun _ => none, 0, 0⟩) Unit Unit (runI (fun _ _ _ => .inl ()) 0 () es)
      (fun m o => ∃ σ', o = .exit 0 σ') (fun _ o => False) := by
  refine loop_all es (fun i (_ : Unit) => ⟨upd (upd (upd (fun _ => .bad) 0 (.lit t_int (es.map intC))) 1 (.lit t_int (es.map intC))) 5 (.n i), fun _ => none, 0, 0⟩) _ (fun _ _ => True) _ _ () trivial hl (fun i m e K hc hlt hi => ?_) (fun m K _ => ?_)
  · have hr := map_at (f := intC) hc
    have hw := wrap_nat (n := i) (by unfold big at hl; omega)
    simp only [loopN, e_laws_eqIntS_0, B_laws_eqIntS_0, go_sem, List.length_map, hr, hlt, hw]
  · have hi : ¬ es.length < es.length := by omega
    simp only [loopN, e_laws_eqIntS_0, B_laws_eqIntS_0, go_sem, List.length_map, hi]
    exact ⟨_, rfl, _, rfl⟩
theorem d_eqIntS {D : Nat} (hD : 1 ≤ D) (es : List Int) (hl : es.length ≤ big) : den pr D f_laws_eqIntS [.lit t_int (es.map intC), .lit t_int (es.map intC)] = some [.q true] := by
  obtain ⟨D, rfl, hd⟩ := pred_of hD
  rw [u_laws_eqIntS]
  obtain ⟨out, lo, lp⟩ := lp_eqIntS (D := D) es hl
  rw [run_unit] at lp
  obtain ⟨σ', rfl⟩ := lp
  rw [show ((0 : Nat) : Int) = 0 from rfl] at lo
  simp only [c_laws_eqIntS, go_sem, List.length_map, lo]
end Go.Vm.T

namespace Go.Vm.T
variable [Pr0]
def dig (k : Int) : ByteArray := ⟨[UInt8.ofNat (IntKind.u8.wrap (IntKind.i64.wrap (48 + k.tmod 10))).toNat].toArray⟩
def q10 (k : Int) : Int := IntKind.i64.wrap (k.tdiv 10)
def digs : Nat → Int → ByteArray → ByteArray
  | 0, _, s => s
  | n + 1, k, s => if 0 < k then digs n (q10 k) (dig k ++ s) else s
theorem dig_size (k : Int) (s : ByteArray) : (dig k ++ s).size = s.size + 1 := by
  rw [ByteArray.size_append, Nat.add_comm]
  rfl
theorem digs_size : ∀ (n : Nat) (k : Int) (s : ByteArray), (digs n k s).size ≤ s.size + n
  | 0, _, s => Nat.le_refl _
  | n + 1, k, s => by
    unfold digs
    split
    · have := digs_size n (q10 k) (dig k ++ s)
      rw [dig_size] at this
      omega
    · omega
theorem q10_eq {k : Int} (h0 : 0 ≤ k) (h1 : k ≤ 2 ^ 62) : q10 k = k / 10 := by
  unfold q10
  rw [Int.tdiv_eq_ediv_of_nonneg h0, wrap_i64 (by omega) (by omega)]
theorem lp_markText {D : Nat} : ∀ (n : Nat) (k : Int) (s : ByteArray) (K : Nat), 0 ≤ k → k < 10 ^ n → k ≤ 2 ^ 62 → s.size + n ≤ 2 ^ 20 → n < K →
    ∃ σ', loopN (exec ⟨den pr D, dcl pr D⟩ b_q52_0) [0, 3] K ⟨upd (upd (fun _ => .bad) 0 (.n k)) 3 (.s s), fun _ => none, 0, 0⟩ = some (.exit 0 σ') ∧ σ'.s 3 = .s (digs n k s)
  | n, k, s, K, h0, h1, h2, h3, h4 => by
    obtain ⟨K, rfl⟩ : ∃ j, K = j + 1 := ⟨K - 1, by omega⟩
    by_cases hk : 0 < k
    · cases n with
      | zero => simp at h1; omega
      | succ n =>
        have hq := q10_eq h0 h2
        have hsz : (dig k).size + s.size ≤ 2 ^ 62 := by have := dig_size k s; rw [ByteArray.size_append] at this; omega
        obtain ⟨σ', e1, e2⟩ := lp_markText (D := D) n (q10 k) (dig k ++ s) K (by rw [hq]; omega) (by rw [hq]; rw [Int.pow_succ] at h1; omega) (by rw [hq]; omega) (by rw [dig_size]; omega) (by omega)
        refine ⟨σ', ?_, ?_⟩
        · rw [← e1]
          have hd : (10 : Int) = 0 ↔ False := by decide
          have hdg : (⟨[UInt8.ofNat (IntKind.u8.wrap (IntKind.i64.wrap (48 + k.tmod 10))).toNat].toArray⟩ : ByteArray) = dig k := rfl
          have hqq : IntKind.i64.wrap (k.tdiv 10) = q10 k := rfl
          rw [loopN]
          simp only [e_q52_0, B_q52_0, go_sem, hk, hd, bytesOf, hdg, hqq, hsz]
        · rw [e2]
          show _ = A.s (if 0 < k then digs n (q10 k) (dig k ++ s) else s)
          rw [if_pos hk]
    · have hx : digs n k s = s := by
        cases n with
        | zero => rfl
        | succ n => show (if 0 < k then digs n (q10 k) (dig k ++ s) else s) = s; rw [if_neg hk]
      rw [hx]
      simp only [loopN, e_q52_0, B_q52_0, go_sem, hk]
      exact ⟨_, rfl, rfl⟩
def markT (k : Int) : ByteArray := if k ≤ 0 then ⟨#[109, 48]⟩ else ⟨#[109]⟩ ++ digs 13 k ⟨#[]⟩
theorem d_markText {D : Nat} (hD : 1 ≤ D) (k : Int) (hk : k ≤ 2 ^ 42) : den pr D f_q52 [.n k] = some [.s (markT k)] := by
  obtain ⟨D, rfl, hd⟩ := pred_of hD
  rw [u_q52]
  by_cases h : k ≤ 0
  · simp only [c_q52, go_sem, h, markT]
  · obtain ⟨σ', e1, e2⟩ := lp_markText (D := D) 13 k ⟨#[]⟩ rounds (by omega) (by omega) (by omega) (by decide) (by decide)
    have hs := digs_size 13 k ⟨#[]⟩
    have hs2 : (⟨#[109]⟩ : ByteArray).size + (digs 13 k ⟨#[]⟩).size ≤ 2 ^ 62 := by
      have h1 : (⟨#[109]⟩ : ByteArray).size = 1 := rfl
      have h2 : (⟨#[]⟩ : ByteArray).size = 0 := rfl
      omega
    simp only [c_q52, go_sem, h, markT, e1, e2, hs2]
theorem mul_at (w i : Nat) : ((w * (i + 1) : Nat) : Int) = ((w * i : Nat) : Int) + w := by rw [Nat.mul_succ]; omega
theorem set_set {α : Type} (l : List α) (i : Nat) (a b : α) : (l.set i a).set i b = l.set i b := List.set_set ..
end Go.Vm.T
end
