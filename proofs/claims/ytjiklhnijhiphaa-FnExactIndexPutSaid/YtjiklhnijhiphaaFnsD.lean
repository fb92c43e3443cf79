/-
  What the functions under CondOk compute; the law in the abstract machine
-/
import Derived.Test.YtjiklhnijhiphaaFnsC
section
set_option linter.unusedVariables false
set_option linter.unusedSimpArgs false
namespace Go.Vm.T

structure ColV where
  nm : ByteArray
  k : Int
  need : Bool
  once : Bool
  df : Val
  deriving DecidableEq
abbrev ColV.c (c : ColV) : List A := [.s c.nm, .n c.k, .q c.need, .q c.once, .n c.df.k, .n c.df.n, .s c.df.t]
structure CondV where
  nm : ByteArray
  how : Int
  v : Val
  deriving DecidableEq
abbrev CondV.c (c : CondV) : List A := [.s c.nm, .n c.how, .n c.v.k, .n c.v.n, .s c.v.t]
abbrev colW : ColV → Nat := fun c => c.nm.size + c.df.t.size
abbrev condW : CondV → Nat := fun c => c.nm.size + c.v.t.size
abbrev zCol : List A := [.s ⟨#[]⟩, .n 0, .q false, .q false, .n 0, .n 0, .s ⟨#[]⟩]

theorem dec_dec {l : Int} (a b : Nat) (h : ¬ dec l a < 0) : dec (dec l a) b = dec l (a + b) := by
  obtain ⟨h1, h2⟩ := dec_ok h
  rw [h1]
  unfold dec
  have : l - (a : Int) - b = l - ((a + b : Nat) : Int) := by omega
  rw [this]
theorem dec_lt {l : Int} (a b : Nat) (h : dec l a < 0) : dec l (a + b) = -1 := by
  unfold dec at *
  by_cases hn : l - (a : Int) < 0
  · rw [if_pos (by omega)]
  · rw [if_neg hn] at h; omega
theorem d_szCol {D : Nat} (hD : 2 ≤ D) (e : ColV) (l : Int) (h0 : 0 ≤ l) (h1 : l ≤ cap) (hv : e.nm.size ≤ maxLen ∧ e.df.t.size ≤ maxLen) : den pr D f_laws_szCol [.agg e.c, .n l] = some [.n (dec l (colW e))] := by
  obtain ⟨D, rfl, hd⟩ := pred_of hD
  rw [u_laws_szCol]
  have hw : IntKind.i64.wrap (l - (e.nm.size : Int)) = l - e.nm.size := wrap_i64 (by unfold maxLen at hv; omega) (by unfold cap at h1; omega)
  by_cases h : l - (e.nm.size : Int) < 0
  · have h2 : dec l (colW e) = -1 := dec_lt _ _ (by unfold dec; rw [if_pos h]; decide)
    simp only [c_laws_szCol, go_sem, Nat.reduceEqDiff, Nat.reduceAdd, reduceIte, reduceCtorEq, Nat.reduceLeDiff, Nat.reduceLT, hw, h, h2]
  · have hx : dec l e.nm.size = l - e.nm.size := by unfold dec; rw [if_neg h]
    have hs := d_szVal hd e.df (l - e.nm.size) (by omega) (by omega) hv.2
    have hdd : dec (l - e.nm.size) e.df.t.size = dec l (colW e) := by rw [← hx]; exact dec_dec _ _ (by rw [hx]; exact h)
    rw [hdd] at hs
    by_cases h3 : dec l (colW e) < 0
    · have h4 : (-1 : Int) < 0 := by decide
      have h5 := dec_neg h3
      simp only [c_laws_szCol, go_sem, Nat.reduceEqDiff, Nat.reduceAdd, reduceIte, reduceCtorEq, Nat.reduceLeDiff, Nat.reduceLT, hw, h, hs, h5, h4]
    · simp only [c_laws_szCol, go_sem, Nat.reduceEqDiff, Nat.reduceAdd, reduceIte, reduceCtorEq, Nat.reduceLeDiff, Nat.reduceLT, hw, h, hs, h3]
theorem d_szCond {D : Nat} (hD : 2 ≤ D) (e : CondV) (l : Int) (h0 : 0 ≤ l) (h1 : l ≤ cap) (hv : e.nm.size ≤ maxLen ∧ e.v.t.size ≤ maxLen) : den pr D f_laws_szCond [.agg e.c, .n l] = some [.n (dec l (condW e))] := by
  obtain ⟨D, rfl, hd⟩ := pred_of hD
  rw [u_laws_szCond]
  have hw : IntKind.i64.wrap (l - (e.nm.size : Int)) = l - e.nm.size := wrap_i64 (by unfold maxLen at hv; omega) (by unfold cap at h1; omega)
  by_cases h : l - (e.nm.size : Int) < 0
  · have h2 : dec l (condW e) = -1 := dec_lt _ _ (by unfold dec; rw [if_pos h]; decide)
    simp only [c_laws_szCond, go_sem, Nat.reduceEqDiff, Nat.reduceAdd, reduceIte, reduceCtorEq, Nat.reduceLeDiff, Nat.reduceLT, hw, h, h2]
  · have hx : dec l e.nm.size = l - e.nm.size := by unfold dec; rw [if_neg h]
    have hs := d_szVal hd e.v (l - e.nm.size) (by omega) (by omega) hv.2
    have hdd : dec (l - e.nm.size) e.v.t.size = dec l (condW e) := by rw [← hx]; exact dec_dec _ _ (by rw [hx]; exact h)
    rw [hdd] at hs
    by_cases h3 : dec l (condW e) < 0
    · have h4 : (-1 : Int) < 0 := by decide
      have h5 := dec_neg h3
      simp only [c_laws_szCond, go_sem, Nat.reduceEqDiff, Nat.reduceAdd, reduceIte, reduceCtorEq, Nat.reduceLeDiff, Nat.reduceLT, hw, h, hs, h5, h4]
    · simp only [c_laws_szCond, go_sem, Nat.reduceEqDiff, Nat.reduceAdd, reduceIte, reduceCtorEq, Nat.reduceLeDiff, Nat.reduceLT, hw, h, hs, h3]
theorem d_toCol {D : Nat} (hD : 2 ≤ D) (e : ColV) : den pr D f_laws_toCol [.agg e.c] = some [.agg e.c] := by
  obtain ⟨D, rfl, hd⟩ := pred_of hD
  have h1 := d_toVal hd e.df
  rw [u_laws_toCol]
  simp only [c_laws_toCol, go_sem, Nat.reduceEqDiff, Nat.reduceAdd, reduceIte, reduceCtorEq, Nat.reduceLeDiff, Nat.reduceLT, h1]
theorem d_toCond {D : Nat} (hD : 2 ≤ D) (e : CondV) : den pr D f_laws_toCond [.agg e.c] = some [.agg e.c] := by
  obtain ⟨D, rfl, hd⟩ := pred_of hD
  have h1 := d_toVal hd e.v
  rw [u_laws_toCond]
  simp only [c_laws_toCond, go_sem, Nat.reduceEqDiff, Nat.reduceAdd, reduceIte, reduceCtorEq, Nat.reduceLeDiff, Nat.reduceLT, h1]
theorem d_eqCol {D : Nat} (hD : 2 ≤ D) (e : ColV) : den pr D f_laws_eqCol [.agg e.c, .agg e.c] = some [.q true] := by
  obtain ⟨D, rfl, hd⟩ := pred_of hD
  have h1 := d_eqVal hd e.df
  rw [u_laws_eqCol]
  simp only [c_laws_eqCol, go_sem, Nat.reduceEqDiff, Nat.reduceAdd, reduceIte, reduceCtorEq, Nat.reduceLeDiff, Nat.reduceLT, h1]
theorem lp_szColS {D : Nat} (hD : 2 ≤ D) (es : List ColV) (l : Int) (h0 : 0 ≤ l) (h1 : l ≤ cap) (hl : es.length ≤ big) (hs : ∀ e ∈ es, e.nm.size ≤ maxLen ∧ e.df.t.size ≤ maxLen) :
    Ended (loopN (exec ⟨den pr D, dcl pr D⟩ b_laws_szColS_0) [0, 1, 5] rounds ⟨upd (upd (upd (fun _ => .bad) 0 (.lit t_laws_Col (es.map ColV.c))) 1 (.n l)) 5 (.n (0 : Nat)), fun _ => none, 0, 0⟩) Int Unit (runI (szGo colW) 0 l es)
      (fun m o => ∃ σ', o = .exit 0 σ' ∧ σ'.s 1 = .n m) (fun _ o => ∃ σ', o = .ret σ' ∧ σ'.s 4 = .n (-1)) := by
  refine loop_all es (fun i (m : Int) => ⟨upd (upd (upd (fun _ => .bad) 0 (.lit t_laws_Col (es.map ColV.c))) 1 (.n m)) 5 (.n i), fun _ => none, 0, 0⟩) _ (fun _ m => 0 ≤ m ∧ m ≤ cap) _ _ l ⟨h0, h1⟩ hl (fun i m e K hc hlt hi => ?_) (fun m K _ => ?_)
  · have hr := map_at (f := ColV.c) hc
    have hw := wrap_nat (n := i) (by unfold big at hl; omega)
    have hm := d_szCol hD e m hi.1 hi.2 (hs e (List.mem_of_getElem? hc))
    simp only [loopN, e_laws_szColS_0, B_laws_szColS_0, go_sem, Nat.reduceEqDiff, Nat.reduceAdd, reduceIte, reduceCtorEq, Nat.reduceLeDiff, Nat.reduceLT, List.length_map, hr, hlt, hw, hm, szGo]
    by_cases h : dec m (colW e) < 0
    · simp only [h, go_sem, Nat.reduceEqDiff, Nat.reduceAdd, reduceIte, reduceCtorEq, Nat.reduceLeDiff, Nat.reduceLT]; exact ⟨_, rfl, _, rfl, rfl⟩
    · obtain ⟨h4, h5⟩ := dec_ok h
      simp only [h, go_sem, Nat.reduceEqDiff, Nat.reduceAdd, reduceIte, reduceCtorEq, Nat.reduceLeDiff, Nat.reduceLT]
      exact ⟨by omega, by omega⟩
  · have hi : ¬ es.length < es.length := by omega
    simp only [loopN, e_laws_szColS_0, B_laws_szColS_0, go_sem, Nat.reduceEqDiff, Nat.reduceAdd, reduceIte, reduceCtorEq, Nat.reduceLeDiff, Nat.reduceLT, List.length_map, hi]
    exact ⟨_, rfl, _, rfl, rfl⟩
theorem d_szColS {D : Nat} (hD : 3 ≤ D) (es : List ColV) (l : Int) (h0 : 0 ≤ l) (h1 : l ≤ cap) (hl : es.length ≤ maxLen) (hs : ∀ e ∈ es, e.nm.size ≤ maxLen ∧ e.df.t.size ≤ maxLen) :
    den pr D f_laws_szColS [.lit t_laws_Col (es.map ColV.c), .n l] = some [.n (szList colW l es)] := by
  obtain ⟨D, rfl, hd⟩ := pred_of hD
  rw [u_laws_szColS]
  have hw : IntKind.i64.wrap (l - (es.length : Int)) = l - es.length := wrap_i64 (by unfold maxLen at hl; omega) (by unfold cap at h1; omega)
  simp only [c_laws_szColS, go_sem, Nat.reduceEqDiff, Nat.reduceAdd, reduceIte, reduceCtorEq, Nat.reduceLeDiff, Nat.reduceLT, List.length_map, hw, szList]
  by_cases h : l - (es.length : Int) < 0
  · simp only [h, go_sem, Nat.reduceEqDiff, Nat.reduceAdd, reduceIte, reduceCtorEq, Nat.reduceLeDiff, Nat.reduceLT]
  · have hb : es.length ≤ big := by unfold cap at h1; unfold big; omega
    obtain ⟨out, lo, lp⟩ := lp_szColS hd es (l - es.length) (by omega) (by omega) hb hs
    rw [show ((0 : Nat) : Int) = 0 from rfl] at lo
    rw [szRun_run] at lp
    cases hq : szRun colW (l - es.length) es with
    | some m =>
      rw [hq] at lp
      obtain ⟨σ', rfl, l2⟩ := lp
      simp only [h, go_sem, Nat.reduceEqDiff, Nat.reduceAdd, reduceIte, reduceCtorEq, Nat.reduceLeDiff, Nat.reduceLT, lo, l2, Option.getD_some]
    | none =>
      rw [hq] at lp
      obtain ⟨σ', rfl, l2⟩ := lp
      simp only [h, go_sem, Nat.reduceEqDiff, Nat.reduceAdd, reduceIte, reduceCtorEq, Nat.reduceLeDiff, Nat.reduceLT, lo, l2, Option.getD_none]
theorem lp_toColS {D : Nat} (hD : 2 ≤ D) (es : List ColV) (hl : es.length ≤ big) :
    Ended (loopN (exec ⟨den pr D, dcl pr D⟩ b_laws_toColS_0) [0, 3, 4] rounds ⟨upd (upd (upd (fun _ => .bad) 0 (.lit t_laws_Col (es.map ColV.c))) 3 (.ref t_impl_Col 0 0 es.length es.length true)) 4 (.n (0 : Nat)), upd (fun _ => none) 0 (some ⟨t_impl_Col, frow zCol (es.map ColV.c) 0, true, false⟩), 1, 0⟩) Unit Unit (runI (fun _ _ _ => .inl ()) 0 () es)
      (fun m o => ∃ σ', o = .exit 0 σ' ∧ σ'.s 3 = .ref t_impl_Col 0 0 es.length es.length true ∧ σ'.h 0 = some ⟨t_impl_Col, es.map ColV.c, true, false⟩) (fun _ o => False) := by
  refine loop_all es (fun i (_ : Unit) => ⟨upd (upd (upd (fun _ => .bad) 0 (.lit t_laws_Col (es.map ColV.c))) 3 (.ref t_impl_Col 0 0 es.length es.length true)) 4 (.n i), upd (fun _ => none) 0 (some ⟨t_impl_Col, frow zCol (es.map ColV.c) i, true, false⟩), 1, 0⟩) _ (fun _ _ => True) _ _ () trivial hl (fun i m e K hc hlt hi => ?_) (fun m K _ => ?_)
  · have hr := map_at (f := ColV.c) hc
    have hw := wrap_nat (n := i) (by unfold big at hl; omega)
    have hm := d_toCol hD e
    have hf : (frow zCol (es.map ColV.c) i)[i]? = some zCol := frow_at (by simpa using hlt)
    have hs := frow_set (z := zCol) hr
    have hlen : (frow zCol (es.map ColV.c) i).length = es.length := by rw [frow_length (by simp; omega)]; simp
    simp only [loopN, e_laws_toColS_0, B_laws_toColS_0, go_sem, Nat.reduceEqDiff, Nat.reduceAdd, reduceIte, reduceCtorEq, Nat.reduceLeDiff, Nat.reduceLT, List.length_map, hr, hlt, hw, hm, hf, hs, hlen]
  · have hi : ¬ es.length < es.length := by omega
    have ha := frow_all zCol (es.map ColV.c)
    rw [List.length_map] at ha
    simp only [loopN, e_laws_toColS_0, B_laws_toColS_0, go_sem, Nat.reduceEqDiff, Nat.reduceAdd, reduceIte, reduceCtorEq, Nat.reduceLeDiff, Nat.reduceLT, List.length_map, hi, ha]
    exact ⟨_, rfl, _, rfl, rfl, rfl⟩
theorem d_toColS {D : Nat} (hD : 3 ≤ D) (es : List ColV) (hl : es.length ≤ big) : den pr D f_laws_toColS [.lit t_laws_Col (es.map ColV.c)] = some [.olit t_impl_Col (es.map ColV.c)] := by
  obtain ⟨D, rfl, hd⟩ := pred_of hD
  rw [u_laws_toColS]
  obtain ⟨out, lo, lp⟩ := lp_toColS hd es hl
  rw [run_unit] at lp
  obtain ⟨σ', rfl, l2, l3⟩ := lp
  rw [show ((0 : Nat) : Int) = 0 from rfl, frow_zero, List.length_map] at lo
  simp only [c_laws_toColS, go_sem, Nat.reduceEqDiff, Nat.reduceAdd, reduceIte, reduceCtorEq, Nat.reduceLeDiff, Nat.reduceLT, List.length_map, hl, lo, l2, l3]

theorem lp_eqColS {D : Nat} (hD : 2 ≤ D) (es : List ColV) (hl : es.length ≤ big) :
    Ended (loopN (exec ⟨den pr D, dcl pr D⟩ b_laws_eqColS_0) [0, 1, 5] rounds ⟨upd (upd (upd (fun _ => .bad) 0 (.lit t_impl_Col (es.map ColV.c))) 1 (.lit t_impl_Col (es.map ColV.c))) 5 (.n (0 : Nat)), fun _ => none, 0, 0⟩) Unit Unit (runI (fun _ _ _ => .inl ()) 0 () es)
      (fun m o => ∃ σ', o = .exit 0 σ') (fun _ o => False) := by
  refine loop_all es (fun i (_ : Unit) => ⟨upd (upd (upd (fun _ => .bad) 0 (.lit t_impl_Col (es.map ColV.c))) 1 (.lit t_impl_Col (es.map ColV.c))) 5 (.n i), fun _ => none, 0, 0⟩) _ (fun _ _ => True) _ _ () trivial hl (fun i m e K hc hlt hi => ?_) (fun m K _ => ?_)
  · have hr := map_at (f := ColV.c) hc
    have hw := wrap_nat (n := i) (by unfold big at hl; omega)
    have hm := d_eqCol hD e
    simp only [loopN, e_laws_eqColS_0, B_laws_eqColS_0, go_sem, Nat.reduceEqDiff, Nat.reduceAdd, reduceIte, reduceCtorEq, Nat.reduceLeDiff, Nat.reduceLT, List.length_map, hr, hlt, hw, hm]
  · have hi : ¬ es.length < es.length := by omega
    simp only [loopN, e_laws_eqColS_0, B_laws_eqColS_0, go_sem, Nat.reduceEqDiff, Nat.reduceAdd, reduceIte, reduceCtorEq, Nat.reduceLeDiff, Nat.reduceLT, List.length_map, hi]
    exact ⟨_, rfl, _, rfl⟩
theorem d_eqColS {D : Nat} (hD : 3 ≤ D) (es : List ColV) (hl : es.length ≤ big) : den pr D f_laws_eqColS [.lit t_impl_Col (es.map ColV.c), .lit t_impl_Col (es.map ColV.c)] = some [.q true] := by
  obtain ⟨D, rfl, hd⟩ := pred_of hD
  rw [u_laws_eqColS]
  obtain ⟨out, lo, lp⟩ := lp_eqColS hd es hl
  rw [run_unit] at lp
  obtain ⟨σ', rfl⟩ := lp
  rw [show ((0 : Nat) : Int) = 0 from rfl] at lo
  simp only [c_laws_eqColS, go_sem, Nat.reduceEqDiff, Nat.reduceAdd, reduceIte, reduceCtorEq, Nat.reduceLeDiff, Nat.reduceLT, List.length_map, lo]
end Go.Vm.T
end

section
set_option linter.unusedVariables false
set_option linter.unusedSimpArgs false
namespace Go.Vm.T

/-! ### names -/
def badN (c : UInt8) : Bool := decide ((c.toNat : Int) < 97) || decide (122 < (c.toNat : Int))
def nmL (l : List UInt8) : Bool := l.all fun c => !badN c
theorem nmL_run : ∀ (l : List UInt8) (i : Nat), (runI (fun _ (_ : Unit) c => if badN c then .inr () else .inl ()) i () l : Unit ⊕ Unit) = if nmL l then .inl () else .inr ()
  | [], i => rfl
  | c :: l, i => by
    unfold runI
    have : nmL (c :: l) = (!badN c && nmL l) := rfl
    rw [this]
    cases badN c with
    | true => rfl
    | false => simp only [Bool.false_eq_true, if_false, Bool.not_false, Bool.true_and]; exact nmL_run l (i + 1)
def isNm (t : ByteArray) : Bool := bif nmL t.data.toList then inB t.size 1 3 else false

theorem lp_isName (E : Env) (t : ByteArray) (ht : t.size ≤ big) :
    Ended (loopN (exec E b_impl_isName_0) [0, 5, 6] rounds ⟨upd (upd (upd (fun _ => .bad) 0 (.s t)) 5 (.n t.size)) 6 (.n (0 : Nat)), fun _ => none, 0, 0⟩) Unit Unit (if nmL t.data.toList then .inl () else .inr ())
      (fun _ o => ∃ σ', o = .exit 0 σ' ∧ σ'.s 0 = .s t) (fun _ o => ∃ σ', o = .ret σ' ∧ σ'.s 2 = .q false) := by
  rw [← nmL_run _ 0]
  have hsz : t.size = t.data.toList.length := size_eq t
  refine loop_all t.data.toList (fun i (_ : Unit) => ⟨upd (upd (upd (fun _ => .bad) 0 (.s t)) 5 (.n t.size)) 6 (.n i), fun _ => none, 0, 0⟩) _ (fun _ _ => True) _ _ () trivial (by rw [← hsz]; exact ht) (fun i _ c K hc hlt _ => ?_) (fun _ K _ => ?_)
  · have hlt' : i < t.size := by omega
    have hw := wrap_nat (n := i) (by unfold big at ht; omega)
    have hb : (decide ((c.toNat : Int) < 97) || decide (122 < (c.toNat : Int))) = badN c := rfl
    simp only [loopN, e_impl_isName_0, B_impl_isName_0, go_sem, Nat.reduceEqDiff, Nat.reduceAdd, reduceIte, reduceCtorEq, Nat.reduceLeDiff, Nat.reduceLT, hc, hlt', hw, hb]
    cases badN c with
    | true => exact ⟨_, rfl, _, rfl, rfl⟩
    | false => exact rfl
  · have hi : ¬ t.data.toList.length < t.size := by omega
    simp only [loopN, e_impl_isName_0, B_impl_isName_0, go_sem, Nat.reduceEqDiff, Nat.reduceAdd, reduceIte, reduceCtorEq, Nat.reduceLeDiff, Nat.reduceLT, hi]
    exact ⟨_, rfl, _, rfl, rfl⟩
theorem d_isName {D : Nat} (hD : 2 ≤ D) (t : ByteArray) (ht : t.size ≤ big) : den pr D f_impl_isName [.s t] = some [.q (isNm t)] := by
  obtain ⟨D, rfl, hd⟩ := pred_of hD
  rw [u_impl_isName]
  obtain ⟨out, lo, lp⟩ := lp_isName ⟨den pr D, dcl pr D⟩ t ht
  rw [show ((0 : Nat) : Int) = 0 from rfl] at lo
  have h1 := d_in hd
  unfold isNm
  cases hl : nmL t.data.toList with
  | true =>
    rw [hl] at lp
    obtain ⟨σ', rfl, l2⟩ := lp
    simp only [c_impl_isName, go_sem, Nat.reduceEqDiff, Nat.reduceAdd, reduceIte, reduceCtorEq, Nat.reduceLeDiff, Nat.reduceLT, lo, l2, h1]
  | false =>
    rw [hl] at lp
    obtain ⟨σ', rfl, l2⟩ := lp
    simp only [c_impl_isName, go_sem, Nat.reduceEqDiff, Nat.reduceAdd, reduceIte, reduceCtorEq, Nat.reduceLeDiff, Nat.reduceLT, lo, l2]
theorem lp_l2Name (E : Env) (t : ByteArray) (ht : t.size ≤ big) :
    Ended (loopN (exec E b_spec_l2Name_0) [0, 3] rounds ⟨upd (upd (fun _ => .bad) 0 (.s t)) 3 (.n (0 : Nat)), fun _ => none, 0, 0⟩) Unit Unit (if nmL t.data.toList then .inl () else .inr ())
      (fun _ o => ∃ σ', o = .exit 0 σ' ∧ σ'.s 0 = .s t) (fun _ o => ∃ σ', o = .ret σ' ∧ σ'.s 2 = .q false) := by
  rw [← nmL_run _ 0]
  have hsz : t.size = t.data.toList.length := size_eq t
  refine loop_all t.data.toList (fun i (_ : Unit) => ⟨upd (upd (fun _ => .bad) 0 (.s t)) 3 (.n i), fun _ => none, 0, 0⟩) _ (fun _ _ => True) _ _ () trivial (by rw [← hsz]; exact ht) (fun i _ c K hc hlt _ => ?_) (fun _ K _ => ?_)
  · have hlt' : i < t.size := by omega
    have hw := wrap_nat (n := i) (by unfold big at ht; omega)
    have hb : (decide ((c.toNat : Int) < 97) || decide (122 < (c.toNat : Int))) = badN c := rfl
    simp only [loopN, e_spec_l2Name_0, B_spec_l2Name_0, go_sem, Nat.reduceEqDiff, Nat.reduceAdd, reduceIte, reduceCtorEq, Nat.reduceLeDiff, Nat.reduceLT, hc, hlt', hw, hb]
    cases badN c with
    | true => exact ⟨_, rfl, _, rfl, rfl⟩
    | false => exact rfl
  · have hi : ¬ t.data.toList.length < t.size := by omega
    simp only [loopN, e_spec_l2Name_0, B_spec_l2Name_0, go_sem, Nat.reduceEqDiff, Nat.reduceAdd, reduceIte, reduceCtorEq, Nat.reduceLeDiff, Nat.reduceLT, hi]
    exact ⟨_, rfl, _, rfl, rfl⟩
theorem d_l2Name {D : Nat} (hD : 1 ≤ D) (t : ByteArray) (ht : t.size ≤ big) : den pr D f_spec_l2Name [.s t] = some [.q (isNm t)] := by
  obtain ⟨D, rfl, hd⟩ := pred_of hD
  rw [u_spec_l2Name]
  obtain ⟨out, lo, lp⟩ := lp_l2Name ⟨den pr D, dcl pr D⟩ t ht
  rw [show ((0 : Nat) : Int) = 0 from rfl] at lo
  unfold isNm
  cases hl : nmL t.data.toList with
  | true =>
    rw [hl] at lp
    obtain ⟨σ', rfl, l2⟩ := lp
    simp only [c_spec_l2Name, go_sem, Nat.reduceEqDiff, Nat.reduceAdd, reduceIte, reduceCtorEq, Nat.reduceLeDiff, Nat.reduceLT, lo, l2, inB]
  | false =>
    rw [hl] at lp
    obtain ⟨σ', rfl, l2⟩ := lp
    simp only [c_spec_l2Name, go_sem, Nat.reduceEqDiff, Nat.reduceAdd, reduceIte, reduceCtorEq, Nat.reduceLeDiff, Nat.reduceLT, lo, l2]

theorem pf (P : Prop) : P = True ∨ P = False := by
  by_cases h : P
  · exact .inl (eq_true h)
  · exact .inr (eq_false h)

/-! ### columns -/
def fitK (v : Val) (k : Int) : Bool := decide (v.k = 0) || decide (v.k = k)
def colOk (c : ColV) : Bool := isNm c.nm && inB c.k 1 2 && valOk c.df && fitK c.df c.k && (!c.once || decide (c.df.k = 0))
theorem d_fits {D : Nat} (hD : 1 ≤ D) (v : Val) (k : Int) : den pr D f_impl_Val_fits [.agg v.c, .n k] = some [.q (fitK v k)] := by
  obtain ⟨D, rfl, hd⟩ := pred_of hD
  rw [u_impl_Val_fits]
  simp only [c_impl_Val_fits, go_sem, Nat.reduceEqDiff, Nat.reduceAdd, reduceIte, reduceCtorEq, Nat.reduceLeDiff, Nat.reduceLT, fitK]
theorem d_ColOk {D : Nat} (hD : 3 ≤ D) (c : ColV) (h1 : c.nm.size ≤ big) (h2 : c.df.t.size ≤ big) : den pr D f_impl_ColOk [.agg c.c] = some [.q (colOk c)] := by
  obtain ⟨D, rfl, hd⟩ := pred_of hD
  rw [u_impl_ColOk]
  have e1 := d_isName (show 2 ≤ D by omega) c.nm h1
  have e2 := d_in (show 1 ≤ D by omega) c.k 1 2
  have e3 := d_ValOk (show 2 ≤ D by omega) c.df h2
  have e4 := d_fits (show 1 ≤ D by omega) c.df c.k
  unfold colOk
  generalize isNm c.nm = p1 at *
  generalize inB c.k 1 2 = p2 at *
  generalize valOk c.df = p3 at *
  generalize fitK c.df c.k = p4 at *
  cases p1 <;> cases p2 <;> cases p3 <;> cases p4 <;> simp only [c_impl_ColOk, go_sem, Nat.reduceEqDiff, Nat.reduceAdd, reduceIte, reduceCtorEq, Nat.reduceLeDiff, Nat.reduceLT, e1, e2, e3, e4]
theorem kind_eq (k : Int) : (decide (k = 1) || decide (k = 2)) = inB k 1 2 := by
  unfold inB
  by_cases h1 : k = 1
  · simp [h1]
  · by_cases h2 : k = 2
    · simp [h2]
    · simp only [h1, h2, decide_false, Bool.or_self]
      symm
      rw [Bool.and_eq_false_iff, decide_eq_false_iff_not, decide_eq_false_iff_not]
      omega
theorem d_spec_ColOk {D : Nat} (hD : 3 ≤ D) (c : ColV) (h1 : c.nm.size ≤ big) (h2 : c.df.t.size ≤ big) : den pr D f_spec_ColOk [.agg c.c] = some [.q (colOk c)] := by
  obtain ⟨D, rfl, hd⟩ := pred_of hD
  rw [u_spec_ColOk]
  have e1 := d_l2Name (show 1 ≤ D by omega) c.nm h1
  have e3 := d_spec_ValOk (show 2 ≤ D by omega) c.df h2
  have e4 := kind_eq c.k
  have e5 : (decide (c.df.k = 0) || decide (c.df.k = c.k)) = fitK c.df c.k := rfl
  unfold colOk
  rw [← e4, ← e5]
  generalize isNm c.nm = p1 at *
  generalize valOk c.df = p3 at *
  cases p1 <;> cases p3 <;> simp only [c_spec_ColOk, go_sem, Nat.reduceEqDiff, Nat.reduceAdd, reduceIte, reduceCtorEq, Nat.reduceLeDiff, Nat.reduceLT, e1, e3]
  rcases pf (c.k = 1) with q1 | q1 <;> rcases pf (c.k = 2) with q2 | q2 <;> rcases pf (c.df.k = 0) with q3 | q3 <;> rcases pf (c.df.k = c.k) with q4 | q4 <;> simp only [q1, q2, q3, q4, go_sem, Nat.reduceEqDiff, Nat.reduceAdd, reduceIte, reduceCtorEq, Nat.reduceLeDiff, Nat.reduceLT]
end Go.Vm.T
end

section
set_option linter.unusedVariables false
set_option linter.unusedSimpArgs false
namespace Go.Vm.T

structure SmallC (cs : List ColV) : Prop where
  len : cs.length ≤ big
  txt : ∀ c ∈ cs, c.nm.size ≤ big ∧ c.df.t.size ≤ big
def nmG (nm : ByteArray) : Nat → Unit → ColV → Unit ⊕ Nat := fun i _ x => bif decide (x.nm = nm) then .inr i else .inl ()
def nmAt (nm : ByteArray) (cs : List ColV) : Option Nat := match runI (nmG nm) 0 () cs with
  | .inl _ => none
  | .inr i => some i
def nmI (nm : ByteArray) (cs : List ColV) : Int := match nmAt nm cs with
  | none => -1
  | some i => i
theorem nm_lt (nm : ByteArray) : ∀ (cs : List ColV) (i k : Nat), runI (nmG nm) i () cs = .inr k → i ≤ k ∧ k < i + cs.length
  | [], i, k, h => nomatch h
  | x :: cs, i, k, h => by
    unfold runI nmG at h
    by_cases hx : x.nm = nm
    · simp [hx] at h
      subst h
      simp
    · simp only [hx, decide_false, cond_false] at h
      have := nm_lt nm cs (i + 1) k h
      simp only [List.length_cons]
      omega
theorem nmAt_lt {nm : ByteArray} {cs : List ColV} {k : Nat} (h : nmAt nm cs = some k) : k < cs.length := by
  unfold nmAt at h
  cases hr : runI (nmG nm) 0 () cs with
  | inl _ => rw [hr] at h; cases h
  | inr i =>
    rw [hr] at h
    cases h
    have := nm_lt nm cs 0 k hr
    omega
theorem d_colAt_1 {D : Nat} (hD : 1 ≤ D) (c : ColV) (nm : ByteArray) : den pr D f_impl_colAt_1 [.agg c.c, .pl [.s nm] 0] = some [.q (decide (c.nm = nm))] := by
  obtain ⟨D, rfl, hd⟩ := pred_of hD
  rw [u_impl_colAt_1]
  simp only [c_impl_colAt_1, go_sem, Nat.reduceEqDiff, Nat.reduceAdd, reduceIte, reduceCtorEq, Nat.reduceLeDiff, Nat.reduceLT]
theorem lp_IndexFunc {D : Nat} (hD : 1 ≤ D) (nm : ByteArray) (cs : List ColV) (hl : cs.length ≤ big) :
    Ended (loopN (exec ⟨den pr D, dcl pr D⟩ b_slices_IndexFunc_S_impl_Col_impl_Col_0) [0, 1, 7, 8] rounds ⟨upd (upd (upd (upd (fun _ => .bad) 0 (.lit t_impl_Col (cs.map ColV.c))) 1 (.fn f_impl_colAt_1 [.pl [.s nm] 0])) 7 (.n cs.length)) 8 (.n (0 : Nat)), fun _ => none, 0, 0⟩) Unit Nat (runI (nmG nm) 0 () cs)
      (fun _ o => ∃ σ', o = .exit 0 σ') (fun i o => ∃ σ', o = .ret σ' ∧ σ'.s 4 = .n i) := by
  refine loop_all cs (fun i (_ : Unit) => ⟨upd (upd (upd (upd (fun _ => .bad) 0 (.lit t_impl_Col (cs.map ColV.c))) 1 (.fn f_impl_colAt_1 [.pl [.s nm] 0])) 7 (.n cs.length)) 8 (.n i), fun _ => none, 0, 0⟩) _ (fun _ _ => True) _ _ () trivial hl (fun i _ x K hc hlt hi => ?_) (fun _ K _ => ?_)
  · have hr := map_at (f := ColV.c) hc
    have hw := wrap_nat (n := i) (by unfold big at hl; omega)
    have hp := d_colAt_1 hD x nm
    simp only [loopN, e_slices_IndexFunc_S_impl_Col_impl_Col_0, B_slices_IndexFunc_S_impl_Col_impl_Col_0, go_sem, Nat.reduceEqDiff, Nat.reduceAdd, reduceIte, reduceCtorEq, Nat.reduceLeDiff, Nat.reduceLT, List.length_map, hr, hlt, hw, hp, nmG]
    generalize decide (x.nm = nm) = q
    cases q with
    | true => simp only [go_sem, Nat.reduceEqDiff, Nat.reduceAdd, reduceIte, reduceCtorEq, Nat.reduceLeDiff, Nat.reduceLT]; exact ⟨_, rfl, _, rfl, rfl⟩
    | false => simp only [go_sem, Nat.reduceEqDiff, Nat.reduceAdd, reduceIte, reduceCtorEq, Nat.reduceLeDiff, Nat.reduceLT]
  · have hi : ¬ cs.length < cs.length := by omega
    simp only [loopN, e_slices_IndexFunc_S_impl_Col_impl_Col_0, B_slices_IndexFunc_S_impl_Col_impl_Col_0, go_sem, Nat.reduceEqDiff, Nat.reduceAdd, reduceIte, reduceCtorEq, Nat.reduceLeDiff, Nat.reduceLT, List.length_map, hi]
    exact ⟨_, rfl, _, rfl⟩
theorem d_colAt {D : Nat} (hD : 3 ≤ D) (nm : ByteArray) (cs : List ColV) (hl : cs.length ≤ big) : den pr D f_impl_colAt [.lit t_impl_Col (cs.map ColV.c), .s nm] = some [.n (nmI nm cs)] := by
  obtain ⟨D, rfl, hd⟩ := pred_of hD
  obtain ⟨D, rfl, hd⟩ := pred_of hd
  have h1 : den pr (D + 1) f_slices_IndexFunc_S_impl_Col_impl_Col [.lit t_impl_Col (cs.map ColV.c), .fn f_impl_colAt_1 [.pl [.s nm] 0]] = some [.n (nmI nm cs)] := by
    rw [u_slices_IndexFunc_S_impl_Col_impl_Col]
    obtain ⟨out, lo, lp⟩ := lp_IndexFunc (show 1 ≤ D by omega) nm cs hl
    rw [show ((0 : Nat) : Int) = 0 from rfl] at lo
    unfold nmI nmAt
    cases hr : runI (nmG nm) 0 () cs with
    | inl _ =>
      rw [hr] at lp
      obtain ⟨σ', rfl⟩ := lp
      simp only [c_slices_IndexFunc_S_impl_Col_impl_Col, go_sem, Nat.reduceEqDiff, Nat.reduceAdd, reduceIte, reduceCtorEq, Nat.reduceLeDiff, Nat.reduceLT, List.length_map, lo]
    | inr i =>
      rw [hr] at lp
      obtain ⟨σ', rfl, l2⟩ := lp
      simp only [c_slices_IndexFunc_S_impl_Col_impl_Col, go_sem, Nat.reduceEqDiff, Nat.reduceAdd, reduceIte, reduceCtorEq, Nat.reduceLeDiff, Nat.reduceLT, List.length_map, lo, l2]
  rw [u_impl_colAt]
  simp only [c_impl_colAt, go_sem, Nat.reduceEqDiff, Nat.reduceAdd, reduceIte, reduceCtorEq, Nat.reduceLeDiff, Nat.reduceLT, h1]
theorem lp_l2At {E : Env} (nm : ByteArray) (cs : List ColV) (hl : cs.length ≤ big) :
    Ended (loopN (exec E b_spec_l2At_0) [0, 1, 5] rounds ⟨upd (upd (upd (fun _ => .bad) 0 (.lit t_impl_Col (cs.map ColV.c))) 1 (.s nm)) 5 (.n (0 : Nat)), fun _ => none, 0, 0⟩) Unit Nat (runI (nmG nm) 0 () cs)
      (fun _ o => ∃ σ', o = .exit 0 σ') (fun i o => ∃ σ', o = .ret σ' ∧ σ'.s 4 = .n i) := by
  refine loop_all cs (fun i (_ : Unit) => ⟨upd (upd (upd (fun _ => .bad) 0 (.lit t_impl_Col (cs.map ColV.c))) 1 (.s nm)) 5 (.n i), fun _ => none, 0, 0⟩) _ (fun _ _ => True) _ _ () trivial hl (fun i _ x K hc hlt hi => ?_) (fun _ K _ => ?_)
  · have hr := map_at (f := ColV.c) hc
    have hw := wrap_nat (n := i) (by unfold big at hl; omega)
    simp only [loopN, e_spec_l2At_0, B_spec_l2At_0, go_sem, Nat.reduceEqDiff, Nat.reduceAdd, reduceIte, reduceCtorEq, Nat.reduceLeDiff, Nat.reduceLT, List.length_map, hr, hlt, hw, nmG]
    rcases pf (x.nm = nm) with q | q
    · simp only [go_sem, Nat.reduceEqDiff, Nat.reduceAdd, reduceIte, reduceCtorEq, Nat.reduceLeDiff, Nat.reduceLT, q]; exact ⟨_, rfl, _, rfl, rfl⟩
    · simp only [go_sem, Nat.reduceEqDiff, Nat.reduceAdd, reduceIte, reduceCtorEq, Nat.reduceLeDiff, Nat.reduceLT, q, hw]
  · have hi : ¬ cs.length < cs.length := by omega
    simp only [loopN, e_spec_l2At_0, B_spec_l2At_0, go_sem, Nat.reduceEqDiff, Nat.reduceAdd, reduceIte, reduceCtorEq, Nat.reduceLeDiff, Nat.reduceLT, List.length_map, hi]
    exact ⟨_, rfl, _, rfl⟩
theorem d_l2At {D : Nat} (hD : 1 ≤ D) (nm : ByteArray) (cs : List ColV) (hl : cs.length ≤ big) : den pr D f_spec_l2At [.lit t_impl_Col (cs.map ColV.c), .s nm] = some [.n (nmI nm cs)] := by
  obtain ⟨D, rfl, hd⟩ := pred_of hD
  rw [u_spec_l2At]
  obtain ⟨out, lo, lp⟩ := lp_l2At (E := ⟨den pr D, dcl pr D⟩) nm cs hl
  rw [show ((0 : Nat) : Int) = 0 from rfl] at lo
  unfold nmI nmAt
  cases hr : runI (nmG nm) 0 () cs with
  | inl _ =>
    rw [hr] at lp
    obtain ⟨σ', rfl⟩ := lp
    simp only [c_spec_l2At, go_sem, Nat.reduceEqDiff, Nat.reduceAdd, reduceIte, reduceCtorEq, Nat.reduceLeDiff, Nat.reduceLT, lo]
  | inr i =>
    rw [hr] at lp
    obtain ⟨σ', rfl, l2⟩ := lp
    simp only [c_spec_l2At, go_sem, Nat.reduceEqDiff, Nat.reduceAdd, reduceIte, reduceCtorEq, Nat.reduceLeDiff, Nat.reduceLT, lo, l2]

/-! ### shapes -/
def shG (cs : List ColV) : Nat → Unit → ColV → Unit ⊕ Unit := fun i _ c => bif colOk c && decide (nmI c.nm cs = i) then .inl () else .inr ()
def shapeOk (cs : List ColV) : Bool := (match runI (shG cs) 0 () cs with | .inl _ => true | .inr _ => false) && inB cs.length 1 5
theorem lp_ShapeOk {D : Nat} (hD : 3 ≤ D) (cs : List ColV) (hs : SmallC cs) :
    Ended (loopN (exec ⟨den pr D, dcl pr D⟩ b_impl_ShapeOk_0) [0, 5, 6, 7] rounds ⟨upd (upd (upd (upd (fun _ => .bad) 0 (.lit t_impl_Col (cs.map ColV.c))) 5 (.lit t_impl_Col (cs.map ColV.c))) 6 (.n cs.length)) 7 (.n (0 : Nat)), fun _ => none, 0, 0⟩) Unit Unit (runI (shG cs) 0 () cs)
      (fun _ o => ∃ σ', o = .exit 0 σ' ∧ σ'.s 0 = .lit t_impl_Col (cs.map ColV.c)) (fun _ o => ∃ σ', o = .ret σ' ∧ σ'.s 2 = .q false) := by
  have hlen := hs.len
  refine loop_all cs (fun i (_ : Unit) => ⟨upd (upd (upd (upd (fun _ => .bad) 0 (.lit t_impl_Col (cs.map ColV.c))) 5 (.lit t_impl_Col (cs.map ColV.c))) 6 (.n cs.length)) 7 (.n i), fun _ => none, 0, 0⟩) _ (fun _ _ => True) _ _ () trivial hs.len (fun i _ e K hc hlt hi => ?_) (fun _ K _ => ?_)
  · have hr := map_at (f := ColV.c) hc
    have hw := wrap_nat (n := i) (by unfold big at hlen; omega)
    have ht := hs.txt e (List.mem_of_getElem? hc)
    have h1 := d_ColOk hD e ht.1 ht.2
    have h2 := d_colAt hD e.nm cs hs.len
    simp only [loopN, e_impl_ShapeOk_0, B_impl_ShapeOk_0, go_sem, Nat.reduceEqDiff, Nat.reduceAdd, reduceIte, reduceCtorEq, Nat.reduceLeDiff, Nat.reduceLT, hr, hlt, hw, h1, h2, shG]
    generalize colOk e = q1
    rcases pf (nmI e.nm cs = (i : Int)) with q2 | q2 <;> cases q1 <;> simp only [go_sem, Nat.reduceEqDiff, Nat.reduceAdd, reduceIte, reduceCtorEq, Nat.reduceLeDiff, Nat.reduceLT, q2, hw] <;> exact ⟨_, rfl, _, rfl, rfl⟩
  · have hi : ¬ cs.length < cs.length := by omega
    simp only [loopN, e_impl_ShapeOk_0, B_impl_ShapeOk_0, go_sem, Nat.reduceEqDiff, Nat.reduceAdd, reduceIte, reduceCtorEq, Nat.reduceLeDiff, Nat.reduceLT, hi]
    exact ⟨_, rfl, _, rfl, rfl⟩
theorem d_ShapeOk {D : Nat} (hD : 4 ≤ D) (cs : List ColV) (hs : SmallC cs) : den pr D f_impl_ShapeOk [.lit t_impl_Col (cs.map ColV.c)] = some [.q (shapeOk cs)] := by
  obtain ⟨D, rfl, hd⟩ := pred_of hD
  rw [u_impl_ShapeOk]
  obtain ⟨out, lo, lp⟩ := lp_ShapeOk hd cs hs
  rw [show ((0 : Nat) : Int) = 0 from rfl] at lo
  have h1 := d_in (show 1 ≤ D by omega) cs.length 1 5
  unfold shapeOk
  cases hr : runI (shG cs) 0 () cs with
  | inl _ =>
    rw [hr] at lp
    obtain ⟨σ', rfl, l2⟩ := lp
    simp only [c_impl_ShapeOk, go_sem, Nat.reduceEqDiff, Nat.reduceAdd, reduceIte, reduceCtorEq, Nat.reduceLeDiff, Nat.reduceLT, List.length_map, lo, l2, h1]
  | inr _ =>
    rw [hr] at lp
    obtain ⟨σ', rfl, l2⟩ := lp
    simp only [c_impl_ShapeOk, go_sem, Nat.reduceEqDiff, Nat.reduceAdd, reduceIte, reduceCtorEq, Nat.reduceLeDiff, Nat.reduceLT, List.length_map, lo, l2]
theorem lp_spec_ShapeOk {D : Nat} (hD : 3 ≤ D) (cs : List ColV) (hs : SmallC cs) :
    Ended (loopN (exec ⟨den pr D, dcl pr D⟩ b_spec_ShapeOk_0) [0, 3] rounds ⟨upd (upd (fun _ => .bad) 0 (.lit t_impl_Col (cs.map ColV.c))) 3 (.n (0 : Nat)), fun _ => none, 0, 0⟩) Unit Unit (runI (shG cs) 0 () cs)
      (fun _ o => ∃ σ', o = .exit 0 σ' ∧ σ'.s 0 = .lit t_impl_Col (cs.map ColV.c)) (fun _ o => ∃ σ', o = .ret σ' ∧ σ'.s 2 = .q false) := by
  have hlen := hs.len
  refine loop_all cs (fun i (_ : Unit) => ⟨upd (upd (fun _ => .bad) 0 (.lit t_impl_Col (cs.map ColV.c))) 3 (.n i), fun _ => none, 0, 0⟩) _ (fun _ _ => True) _ _ () trivial hs.len (fun i _ e K hc hlt hi => ?_) (fun _ K _ => ?_)
  · have hr := map_at (f := ColV.c) hc
    have hw := wrap_nat (n := i) (by unfold big at hlen; omega)
    have ht := hs.txt e (List.mem_of_getElem? hc)
    have h1 := d_spec_ColOk hD e ht.1 ht.2
    have h2 := d_l2At (show 1 ≤ D by omega) e.nm cs hs.len
    simp only [loopN, e_spec_ShapeOk_0, B_spec_ShapeOk_0, go_sem, Nat.reduceEqDiff, Nat.reduceAdd, reduceIte, reduceCtorEq, Nat.reduceLeDiff, Nat.reduceLT, List.length_map, hr, hlt, hw, h1, h2, shG]
    generalize colOk e = q1
    rcases pf (nmI e.nm cs = (i : Int)) with q2 | q2 <;> cases q1 <;> simp only [go_sem, Nat.reduceEqDiff, Nat.reduceAdd, reduceIte, reduceCtorEq, Nat.reduceLeDiff, Nat.reduceLT, q2, hw] <;> exact ⟨_, rfl, _, rfl, rfl⟩
  · have hi : ¬ cs.length < cs.length := by omega
    simp only [loopN, e_spec_ShapeOk_0, B_spec_ShapeOk_0, go_sem, Nat.reduceEqDiff, Nat.reduceAdd, reduceIte, reduceCtorEq, Nat.reduceLeDiff, Nat.reduceLT, List.length_map, hi]
    exact ⟨_, rfl, _, rfl, rfl⟩
theorem d_spec_ShapeOk {D : Nat} (hD : 4 ≤ D) (cs : List ColV) (hs : SmallC cs) : den pr D f_spec_ShapeOk [.lit t_impl_Col (cs.map ColV.c)] = some [.q (shapeOk cs)] := by
  obtain ⟨D, rfl, hd⟩ := pred_of hD
  rw [u_spec_ShapeOk]
  obtain ⟨out, lo, lp⟩ := lp_spec_ShapeOk hd cs hs
  rw [show ((0 : Nat) : Int) = 0 from rfl] at lo
  unfold shapeOk inB
  cases hr : runI (shG cs) 0 () cs with
  | inl _ =>
    rw [hr] at lp
    obtain ⟨σ', rfl, l2⟩ := lp
    simp only [c_spec_ShapeOk, go_sem, Nat.reduceEqDiff, Nat.reduceAdd, reduceIte, reduceCtorEq, Nat.reduceLeDiff, Nat.reduceLT, List.length_map, lo, l2]
  | inr _ =>
    rw [hr] at lp
    obtain ⟨σ', rfl, l2⟩ := lp
    simp only [c_spec_ShapeOk, go_sem, Nat.reduceEqDiff, Nat.reduceAdd, reduceIte, reduceCtorEq, Nat.reduceLeDiff, Nat.reduceLT, List.length_map, lo, l2]
end Go.Vm.T
end

section
set_option linter.unusedVariables false
set_option linter.unusedSimpArgs false
namespace Go.Vm.T

theorem testA_f (w : Bool) (a : A) : testA w (.ifg false a) = some false := by
  unfold testA
  split <;> simp_all
/-! ### conditions -/
def fitC (col : ColV) (c : CondV) : Bool := valOk c.v && inB c.how 1 3 && (decide (c.v.k = col.k) || (decide (c.how = 1) && decide (c.v.k = 0)))
def fitsC (cs : List ColV) (c : CondV) : Bool := match nmAt c.nm cs with
  | none => false
  | some i => match cs[i]? with
    | none => false
    | some col => fitC col c
def condOk (cs : List ColV) (c : CondV) : Bool := shapeOk cs && fitsC cs c
set_option maxHeartbeats 2000000 in
theorem d_fitsCond {D : Nat} (hD : 4 ≤ D) (cs : List ColV) (c : CondV) (hl : cs.length ≤ big) (hv : c.v.t.size ≤ big) : den pr D f_impl_fitsCond [.lit t_impl_Col (cs.map ColV.c), .agg c.c] = some [.q (fitsC cs c)] := by
  obtain ⟨D, rfl, hd⟩ := pred_of hD
  rw [u_impl_fitsCond]
  have h1 := d_colAt (show 3 ≤ D by omega) c.nm cs hl
  have h2 := d_ValOk (show 2 ≤ D by omega) c.v hv
  have h3 := d_in (show 1 ≤ D by omega) c.how 1 3
  unfold fitsC
  unfold nmI at h1
  cases ha : nmAt c.nm cs with
  | none =>
    rw [ha] at h1
    have hm : ¬ ((0 : Int) ≤ -1) := by decide
    generalize valOk c.v = q1 at *
    generalize inB c.how 1 3 = q2 at *
    simp only [c_impl_fitsCond, go_sem, Nat.reduceEqDiff, Nat.reduceAdd, reduceIte, reduceCtorEq, Nat.reduceLeDiff, Nat.reduceLT, h1, h2, h3, hm, testA_f]
  | some i =>
    rw [ha] at h1
    have hi := nmAt_lt ha
    obtain ⟨col, hcol⟩ : ∃ col, cs[i]? = some col := ⟨cs[i], List.getElem?_eq_getElem hi⟩
    have hr := map_at (f := ColV.c) hcol
    have hp : (0 : Int) ≤ (i : Int) := Int.natCast_nonneg i
    simp only [hcol]
    unfold fitC
    generalize valOk c.v = q1 at *
    generalize inB c.how 1 3 = q2 at *
    cases q1 with
    | false => cases q2 <;> simp only [c_impl_fitsCond, go_sem, Nat.reduceEqDiff, Nat.reduceAdd, reduceIte, reduceCtorEq, Nat.reduceLeDiff, Nat.reduceLT, h1, h2, h3, hp, hr, testA_f]
    | true =>
      cases q2 with
      | false => simp only [c_impl_fitsCond, go_sem, Nat.reduceEqDiff, Nat.reduceAdd, reduceIte, reduceCtorEq, Nat.reduceLeDiff, Nat.reduceLT, h1, h2, h3, hp, hr, testA_f]
      | true => rcases pf (c.v.k = col.k) with p1 | p1 <;> rcases pf (c.how = 1) with p2 | p2 <;> simp only [c_impl_fitsCond, go_sem, Nat.reduceEqDiff, Nat.reduceAdd, reduceIte, reduceCtorEq, Nat.reduceLeDiff, Nat.reduceLT, h1, h2, h3, hp, hr, p1, p2, testA_f]
theorem d_CondOk {D : Nat} (hD : 5 ≤ D) (cs : List ColV) (c : CondV) (hs : SmallC cs) (hv : c.v.t.size ≤ big) : den pr D f_impl_CondOk [.lit t_impl_Col (cs.map ColV.c), .agg c.c] = some [.q (condOk cs c)] := by
  obtain ⟨D, rfl, hd⟩ := pred_of hD
  rw [u_impl_CondOk]
  have h1 := d_ShapeOk (show 4 ≤ D by omega) cs hs
  have h2 := d_fitsCond (show 4 ≤ D by omega) cs c hs.len hv
  simp only [c_impl_CondOk, go_sem, Nat.reduceEqDiff, Nat.reduceAdd, reduceIte, reduceCtorEq, Nat.reduceLeDiff, Nat.reduceLT, h1, h2, condOk]
theorem in3 (k : Int) (h : inB k 1 3 = true) : ¬ k < 1 ∧ ¬ 3 < k := by
  unfold inB at h
  rw [Bool.and_eq_true, decide_eq_true_eq, decide_eq_true_eq] at h
  omega
set_option maxHeartbeats 2000000 in
theorem d_spec_CondOk {D : Nat} (hD : 5 ≤ D) (cs : List ColV) (c : CondV) (hs : SmallC cs) (hv : c.v.t.size ≤ big) : den pr D f_spec_CondOk [.lit t_impl_Col (cs.map ColV.c), .agg c.c] = some [.q (condOk cs c)] := by
  obtain ⟨D, rfl, hd⟩ := pred_of hD
  rw [u_spec_CondOk]
  have h1 := d_spec_ShapeOk (show 4 ≤ D by omega) cs hs
  have h2 := d_l2At (show 1 ≤ D by omega) c.nm cs hs.len
  have h3 := d_spec_ValOk (show 2 ≤ D by omega) c.v hv
  have hx : inB c.how 1 3 = (!decide (c.how < 1) && !decide (3 < c.how)) := by
    unfold inB
    rw [← decide_not, ← decide_not]
    simp only [Int.not_lt]
  unfold condOk fitsC
  unfold nmI at h2
  generalize shapeOk cs = q0 at *
  cases ha : nmAt c.nm cs with
  | none =>
    rw [ha] at h2
    have hm : (-1 : Int) < 0 := by decide
    cases q0 <;> simp only [c_spec_CondOk, go_sem, Nat.reduceEqDiff, Nat.reduceAdd, reduceIte, reduceCtorEq, Nat.reduceLeDiff, Nat.reduceLT, h1, h2, h3, hm]
  | some i =>
    rw [ha] at h2
    have hi := nmAt_lt ha
    obtain ⟨col, hcol⟩ : ∃ col, cs[i]? = some col := ⟨cs[i], List.getElem?_eq_getElem hi⟩
    have hr := map_at (f := ColV.c) hcol
    have hp : ¬ ((i : Int) < 0) := by omega
    simp only [hcol]
    unfold fitC
    rw [hx]
    generalize valOk c.v = q1 at *
    cases q0 with
    | false => cases q1 <;> simp only [c_spec_CondOk, go_sem, Nat.reduceEqDiff, Nat.reduceAdd, reduceIte, reduceCtorEq, Nat.reduceLeDiff, Nat.reduceLT, h1, h2, h3, hp, hr, testA_f]
    | true =>
      cases q1 with
      | false => simp only [c_spec_CondOk, go_sem, Nat.reduceEqDiff, Nat.reduceAdd, reduceIte, reduceCtorEq, Nat.reduceLeDiff, Nat.reduceLT, h1, h2, h3, hp, hr, testA_f]
      | true =>
        rcases pf (c.how < 1) with p3 | p3
        · simp only [c_spec_CondOk, go_sem, Nat.reduceEqDiff, Nat.reduceAdd, reduceIte, reduceCtorEq, Nat.reduceLeDiff, Nat.reduceLT, h1, h2, h3, hp, hr, p3, testA_f]
        · rcases pf (3 < c.how) with p4 | p4
          · simp only [c_spec_CondOk, go_sem, Nat.reduceEqDiff, Nat.reduceAdd, reduceIte, reduceCtorEq, Nat.reduceLeDiff, Nat.reduceLT, h1, h2, h3, hp, hr, p3, p4, testA_f]
          · rcases pf (c.v.k = col.k) with p1 | p1 <;> rcases pf (c.how = 1) with p2 | p2 <;> simp only [c_spec_CondOk, go_sem, Nat.reduceEqDiff, Nat.reduceAdd, reduceIte, reduceCtorEq, Nat.reduceLeDiff, Nat.reduceLT, h1, h2, h3, hp, hr, p1, p2, p3, p4, testA_f]

structure FitC (cs : List ColV) : Prop where
  len : cs.length ≤ maxLen
  txt : ∀ c ∈ cs, c.nm.size ≤ maxLen ∧ c.df.t.size ≤ maxLen
theorem smallC_of {l : Int} {cs : List ColV} (h0 : 0 ≤ l) (h1 : l ≤ cap) (h : ¬ szList colW l cs < 0) : SmallC cs := by
  obtain ⟨_, h2, h3⟩ := szList_ok h0 h
  unfold cap at h1
  exact ⟨by unfold big; omega, fun e he => by have := h3 e he; unfold big; simp only [colW] at this; omega⟩
theorem rowsSl_col (es : List ColV) : rowsSl (es.map ColV.c) = false := rowsSl_map _ (fun _ => rfl) es
theorem d_FnExactCondOk {D : Nat} (hD : 6 ≤ D) (cs : List ColV) (c : CondV) (hf : FitC cs) (hc : c.nm.size ≤ maxLen ∧ c.v.t.size ≤ maxLen) : den pr D f_laws_FnExactCondOk [.lit t_laws_Col (cs.map ColV.c), .agg c.c] = some [.q true] := by
  obtain ⟨D, rfl, hd⟩ := pred_of hD
  rw [u_laws_FnExactCondOk]
  have h1 := d_szColS (show 3 ≤ D by omega) cs 1048576 (by decide) (by decide) hf.len hf.txt
  by_cases h : szList colW 1048576 cs < 0
  · simp only [c_laws_FnExactCondOk, go_sem, Nat.reduceEqDiff, Nat.reduceAdd, reduceIte, reduceCtorEq, Nat.reduceLeDiff, Nat.reduceLT, h1, h]
  · have hs := smallC_of (by decide) (by decide) h
    have hle := (szList_ok (by decide) h).1
    have h1v := d_szCond (show 2 ≤ D by omega) c _ (by omega) hle hc
    by_cases h' : dec (szList colW 1048576 cs) (condW c) < 0
    · simp only [c_laws_FnExactCondOk, go_sem, Nat.reduceEqDiff, Nat.reduceAdd, reduceIte, reduceCtorEq, Nat.reduceLeDiff, Nat.reduceLT, h1, h, h1v, h']
    · have hb := dec_ok h'
      have hv : c.v.t.size ≤ big := by unfold big; simp only [condW] at hb; omega
      have h2 := d_toColS (show 3 ≤ D by omega) cs hs.len
      have h2v := d_toCond (show 2 ≤ D by omega) c
      have h3 := d_spec_CondOk (show 5 ≤ D by omega) cs c hs hv
      have h4 := d_CondOk (show 5 ≤ D by omega) cs c hs hv
      have h5 := d_eqColS (show 3 ≤ D by omega) cs hs.len
      simp only [c_laws_FnExactCondOk, go_sem, Nat.reduceEqDiff, Nat.reduceAdd, reduceIte, reduceCtorEq, Nat.reduceLeDiff, Nat.reduceLT, h1, h, h1v, h', h2, h2v, h3, h4, h5, List.length_map, Nat.le_refl, take_map, rowsSl_col]
end Go.Vm.T
end
