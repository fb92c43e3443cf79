/-
  What the functions under IndexOk and IndexOnce compute
-/
import Derived.Test.YtjiklhnijhiphaaCode
import Derived.Test.YtjiklhnijhiphaaVmC
import Derived.IntWalk
section
set_option linter.unusedVariables false
set_option linter.unusedSimpArgs false
namespace Go.Vm.T

structure Val where
  k : Int
  n : Int
  t : ByteArray
  deriving DecidableEq
abbrev Val.c (v : Val) : List A := [.n v.k, .n v.n, .s v.t]
structure Ent where
  v : Val
  id : Int
  deriving DecidableEq
abbrev Ent.c (e : Ent) : List A := [.n e.v.k, .n e.v.n, .s e.v.t, .n e.id]

theorem ret_cond (c x y : Bool) : (bif c then some [A.v (Value.bool x)] else some [A.v (Value.bool y)]) = some [A.v (Value.bool (bif c then x else y))] := by cases c <;> rfl
theorem pred_of {D k : Nat} (h : k + 1 ≤ D) : ∃ d, D = d + 1 ∧ k ≤ d := ⟨D - 1, by omega, by omega⟩
theorem wrap_i64 {n : Int} (h1 : -9223372036854775808 ≤ n) (h2 : n ≤ 9223372036854775807) : IntKind.i64.wrap n = n := IntWalk.i64_in _ (by exact ⟨h1, h2⟩)
theorem wrap_nat {n : Nat} (h : n ≤ 9223372036854775806) : IntKind.i64.wrap ((n : Int) + 1) = ((n + 1 : Nat) : Int) := by
  rw [wrap_i64 (by omega) (by omega)]; rfl

def inB (n lo hi : Int) : Bool := decide (lo ≤ n) && decide (n ≤ hi)
theorem d_in {D : Nat} (hD : 1 ≤ D) (n lo hi : Int) : den pr D f_impl_in [.n n, .n lo, .n hi] = some [.q (inB n lo hi)] := by
  obtain ⟨D, rfl, hd⟩ := pred_of hD
  rw [u_impl_in]
  simp only [c_impl_in, go_sem, Nat.reduceEqDiff, Nat.reduceAdd, reduceIte, reduceCtorEq, Nat.reduceLeDiff, Nat.reduceLT, inB]

def valLess (a b : Val) : Bool := bif !decide (a.k = b.k) then decide (a.k < b.k) else bif !decide (a.n = b.n) then decide (a.n < b.n) else bytesLt a.t.toList b.t.toList
theorem d_ValLess {D : Nat} (hD : 1 ≤ D) (a b : Val) : den pr D f_impl_ValLess [.agg a.c, .agg b.c] = some [.q (valLess a b)] := by
  obtain ⟨D, rfl, hd⟩ := pred_of hD
  rw [u_impl_ValLess]
  simp only [c_impl_ValLess, go_sem, Nat.reduceEqDiff, Nat.reduceAdd, reduceIte, reduceCtorEq, Nat.reduceLeDiff, Nat.reduceLT, ret_cond, valLess]
theorem d_spec_ValLess {D : Nat} (hD : 1 ≤ D) (a b : Val) : den pr D f_spec_ValLess [.agg a.c, .agg b.c] = some [.q (valLess a b)] := by
  obtain ⟨D, rfl, hd⟩ := pred_of hD
  rw [u_spec_ValLess]
  simp only [c_spec_ValLess, go_sem, Nat.reduceEqDiff, Nat.reduceAdd, reduceIte, reduceCtorEq, Nat.reduceLeDiff, Nat.reduceLT, ret_cond, valLess]

end Go.Vm.T
end

section
set_option linter.unusedVariables false
set_option linter.unusedSimpArgs false
namespace Go.Vm.T

/-- A letter that a text may not have. -/
def badC (c : UInt8) : Bool := (decide ((c.toNat : Int) < 97) || decide (122 < (c.toNat : Int))) && (decide ((c.toNat : Int) < 48) || decide (57 < (c.toNat : Int))) && !decide ((c.toNat : Int) = 45)
def okL (l : List UInt8) : Bool := l.all fun c => !badC c
theorem okL_run : ∀ (l : List UInt8) (i : Nat), (runI (fun _ (_ : Unit) c => if badC c then .inr () else .inl ()) i () l : Unit ⊕ Unit) = if okL l then .inl () else .inr ()
  | [], i => rfl
  | c :: l, i => by
    unfold runI
    have : okL (c :: l) = (!badC c && okL l) := rfl
    rw [this]
    cases badC c with
    | true => rfl
    | false => simp only [Bool.false_eq_true, if_false, Bool.not_false, Bool.true_and]; exact okL_run l (i + 1)

def valOk (v : Val) : Bool :=
  bif decide (v.k = 0) then decide (v.k = 0) && (decide (v.n = 0) && decide (v.t = ⟨#[]⟩))
  else bif decide (v.k = 1) then inB v.n (-999) 999 && decide (v.t = ⟨#[]⟩)
  else bif decide (v.k = 2) then bif okL v.t.data.toList then decide (v.n = 0) && decide ((v.t.size : Int) ≤ 4) else false
  else false

theorem lp_ValOk (E : Env) (k n : Int) (t : ByteArray) (ht : t.size ≤ big) :
    Ended (loopN (exec E b_impl_ValOk_0) [1, 26, 27] rounds ⟨upd (upd (upd (fun _ => .bad) 1 (.ptr 0 0 0)) 26 (.n t.size)) 27 (.n (0 : Nat)), upd (fun _ => none) 0 (some ⟨t_impl_Val, [[.n k, .n n, .s t]], true, true⟩), 1, 0⟩) Unit Unit (if okL t.data.toList then .inl () else .inr ())
      (fun _ o => ∃ σ', o = .exit 1 σ' ∧ σ'.s 1 = .ptr 0 0 0 ∧ σ'.h 0 = some ⟨t_impl_Val, [[.n k, .n n, .s t]], true, true⟩) (fun _ o => ∃ σ', o = .ret σ' ∧ σ'.s 2 = .q false) := by
  rw [← okL_run _ 0]
  have hsz : t.size = t.data.toList.length := size_eq t
  refine loop_all t.data.toList (fun i (_ : Unit) => ⟨upd (upd (upd (fun _ => .bad) 1 (.ptr 0 0 0)) 26 (.n t.size)) 27 (.n i), upd (fun _ => none) 0 (some ⟨t_impl_Val, [[.n k, .n n, .s t]], true, true⟩), 1, 0⟩) _ (fun _ _ => True) _ _ () trivial (by rw [← hsz]; exact ht) (fun i _ c K hc hlt _ => ?_) (fun _ K _ => ?_)
  · have hlt' : i < t.size := by omega
    have hw := wrap_nat (n := i) (by unfold big at ht; omega)
    simp only [loopN, e_impl_ValOk_0, B_impl_ValOk_0, go_sem, Nat.reduceEqDiff, Nat.reduceAdd, reduceIte, reduceCtorEq, Nat.reduceLeDiff, Nat.reduceLT, hc, hlt', hw]
    have hb : badC c = ((decide ((c.toNat : Int) < 97) || decide (122 < (c.toNat : Int))) && (decide ((c.toNat : Int) < 48) || decide (57 < (c.toNat : Int))) && !decide ((c.toNat : Int) = 45)) := rfl
    rw [← hb]
    cases badC c with
    | true => exact ⟨_, rfl, _, rfl, rfl⟩
    | false => exact rfl
  · have hi : ¬ t.data.toList.length < t.size := by omega
    simp only [loopN, e_impl_ValOk_0, B_impl_ValOk_0, go_sem, Nat.reduceEqDiff, Nat.reduceAdd, reduceIte, reduceCtorEq, Nat.reduceLeDiff, Nat.reduceLT, hi]
    exact ⟨_, rfl, _, rfl, rfl, rfl⟩

theorem d_ValOk {D : Nat} (hD : 2 ≤ D) (v : Val) (ht : v.t.size ≤ big) : den pr D f_impl_ValOk [.agg v.c] = some [.q (valOk v)] := by
  obtain ⟨D, rfl, hd⟩ := pred_of hD
  obtain ⟨k, n, t⟩ := v
  rw [u_impl_ValOk]
  simp only at ht
  obtain ⟨out, lo, lp⟩ := lp_ValOk ⟨den pr D, dcl pr D⟩ k n t ht
  rw [show ((0 : Nat) : Int) = 0 from rfl] at lo
  simp only [c_impl_ValOk, go_sem, Nat.reduceEqDiff, Nat.reduceAdd, reduceIte, reduceCtorEq, Nat.reduceLeDiff, Nat.reduceLT, d_in hd, valOk]
  cases h0 : decide (k = 0) with
  | true => simp only [go_sem, Nat.reduceEqDiff, Nat.reduceAdd, reduceIte, reduceCtorEq, Nat.reduceLeDiff, Nat.reduceLT]
  | false =>
    cases h1 : decide (k = 1) with
    | true => simp only [go_sem, Nat.reduceEqDiff, Nat.reduceAdd, reduceIte, reduceCtorEq, Nat.reduceLeDiff, Nat.reduceLT]
    | false =>
      cases h2 : decide (k = 2) with
      | false => simp only [go_sem, Nat.reduceEqDiff, Nat.reduceAdd, reduceIte, reduceCtorEq, Nat.reduceLeDiff, Nat.reduceLT]
      | true =>
        cases hl : okL t.data.toList with
        | true =>
          rw [hl] at lp
          obtain ⟨σ', rfl, l2, l3⟩ := lp
          simp only [go_sem, Nat.reduceEqDiff, Nat.reduceAdd, reduceIte, reduceCtorEq, Nat.reduceLeDiff, Nat.reduceLT, lo, l2, l3]
        | false =>
          rw [hl] at lp
          obtain ⟨σ', rfl, l2⟩ := lp
          simp only [go_sem, Nat.reduceEqDiff, Nat.reduceAdd, reduceIte, reduceCtorEq, Nat.reduceLeDiff, Nat.reduceLT, lo, l2]

/-! ### the reference's -/
theorem d_spec_l1Num {D : Nat} (hD : 1 ≤ D) (n : Int) : den pr D f_spec_l1Num [.n n] = some [.q (inB n (-999) 999)] := by
  obtain ⟨D, rfl, hd⟩ := pred_of hD
  rw [u_spec_l1Num]
  simp only [c_spec_l1Num, go_sem, Nat.reduceEqDiff, Nat.reduceAdd, reduceIte, reduceCtorEq, Nat.reduceLeDiff, Nat.reduceLT, inB]

theorem lp_l1Text (E : Env) (t : ByteArray) (ht : t.size ≤ big) :
    Ended (loopN (exec E b_spec_l1Text_0) [0, 3] rounds ⟨upd (upd (fun _ => .bad) 0 (.s t)) 3 (.n (0 : Nat)), fun _ => none, 0, 0⟩) Unit Unit (if okL t.data.toList then .inl () else .inr ())
      (fun _ o => ∃ σ', o = .exit 0 σ' ∧ σ'.s 0 = .s t) (fun _ o => ∃ σ', o = .ret σ' ∧ σ'.s 2 = .q false) := by
  rw [← okL_run _ 0]
  have hsz : t.size = t.data.toList.length := size_eq t
  refine loop_all t.data.toList (fun i (_ : Unit) => ⟨upd (upd (fun _ => .bad) 0 (.s t)) 3 (.n i), fun _ => none, 0, 0⟩) _ (fun _ _ => True) _ _ () trivial (by rw [← hsz]; exact ht) (fun i _ c K hc hlt _ => ?_) (fun _ K _ => ?_)
  · have hlt' : i < t.size := by omega
    have hw := wrap_nat (n := i) (by unfold big at ht; omega)
    simp only [loopN, e_spec_l1Text_0, B_spec_l1Text_0, go_sem, Nat.reduceEqDiff, Nat.reduceAdd, reduceIte, reduceCtorEq, Nat.reduceLeDiff, Nat.reduceLT, hc, hlt', hw]
    have hb : badC c = ((decide ((c.toNat : Int) < 97) || decide (122 < (c.toNat : Int))) && (decide ((c.toNat : Int) < 48) || decide (57 < (c.toNat : Int))) && !decide ((c.toNat : Int) = 45)) := rfl
    rw [← hb]
    cases badC c with
    | true => exact ⟨_, rfl, _, rfl, rfl⟩
    | false => exact rfl
  · have hi : ¬ t.data.toList.length < t.size := by omega
    simp only [loopN, e_spec_l1Text_0, B_spec_l1Text_0, go_sem, Nat.reduceEqDiff, Nat.reduceAdd, reduceIte, reduceCtorEq, Nat.reduceLeDiff, Nat.reduceLT, hi]
    exact ⟨_, rfl, _, rfl, rfl⟩

theorem d_spec_l1Text {D : Nat} (hD : 1 ≤ D) (t : ByteArray) (ht : t.size ≤ big) : den pr D f_spec_l1Text [.s t] = some [.q (bif okL t.data.toList then decide ((t.size : Int) ≤ 4) else false)] := by
  obtain ⟨D, rfl, hd⟩ := pred_of hD
  rw [u_spec_l1Text]
  obtain ⟨out, lo, lp⟩ := lp_l1Text ⟨den pr D, dcl pr D⟩ t ht
  rw [show ((0 : Nat) : Int) = 0 from rfl] at lo
  simp only [c_spec_l1Text, go_sem, Nat.reduceEqDiff, Nat.reduceAdd, reduceIte, reduceCtorEq, Nat.reduceLeDiff, Nat.reduceLT]
  cases hl : okL t.data.toList with
  | true =>
    rw [hl] at lp
    obtain ⟨σ', rfl, l2⟩ := lp
    simp only [go_sem, Nat.reduceEqDiff, Nat.reduceAdd, reduceIte, reduceCtorEq, Nat.reduceLeDiff, Nat.reduceLT, lo, l2]
  | false =>
    rw [hl] at lp
    obtain ⟨σ', rfl, l2⟩ := lp
    simp only [go_sem, Nat.reduceEqDiff, Nat.reduceAdd, reduceIte, reduceCtorEq, Nat.reduceLeDiff, Nat.reduceLT, lo, l2]

theorem d_spec_ValOk {D : Nat} (hD : 2 ≤ D) (v : Val) (ht : v.t.size ≤ big) : den pr D f_spec_ValOk [.agg v.c] = some [.q (valOk v)] := by
  obtain ⟨D, rfl, hd⟩ := pred_of hD
  obtain ⟨k, n, t⟩ := v
  rw [u_spec_ValOk]
  simp only at ht
  simp only [c_spec_ValOk, go_sem, Nat.reduceEqDiff, Nat.reduceAdd, reduceIte, reduceCtorEq, Nat.reduceLeDiff, Nat.reduceLT, d_spec_l1Num hd, d_spec_l1Text hd t ht, valOk]
  cases h0 : decide (k = 0) <;> cases h1 : decide (k = 1) <;> cases h2 : decide (k = 2) <;> simp only [go_sem, Nat.reduceEqDiff, Nat.reduceAdd, reduceIte, reduceCtorEq, Nat.reduceLeDiff, Nat.reduceLT]
  · cases okL t.data.toList <;> simp only [go_sem, Nat.reduceEqDiff, Nat.reduceAdd, reduceIte, reduceCtorEq, Nat.reduceLeDiff, Nat.reduceLT]
  all_goals first | rfl | (rw [Bool.and_comm])
end Go.Vm.T
end

section
set_option linter.unusedVariables false
set_option linter.unusedSimpArgs false
namespace Go.Vm.T

theorem bytesLt_self : ∀ l, bytesLt l l = false
  | [] => rfl
  | a :: l => by
    have h : decide (a < a) = false := by simp
    have h2 : bytesLt (a :: l) (a :: l) = (decide (a < a) || (a == a && bytesLt l l)) := rfl
    rw [h2, h, bytesLt_self l]; simp
theorem valLess_self (a : Val) : valLess a a = false := by
  unfold valLess
  rw [bytesLt_self]
  simp
theorem val_eq (a b : Val) : (decide (a.k = b.k) && (decide (a.n = b.n) && decide (a.t = b.t))) = decide (a = b) := by
  obtain ⟨k, n, t⟩ := a
  obtain ⟨k', n', t'⟩ := b
  simp only [Val.mk.injEq]
  by_cases h1 : k = k' <;> by_cases h2 : n = n' <;> by_cases h3 : t = t' <;> simp [h1, h2, h3]

def entOk (e : Ent) : Bool := valOk e.v && inB e.id 1 60
def entLess (a b : Ent) : Bool := bif !decide (a.v = b.v) then valLess a.v b.v else decide (a.id < b.id)

theorem d_Entry_ok {D : Nat} (hD : 3 ≤ D) (e : Ent) (ht : e.v.t.size ≤ big) : den pr D f_impl_Entry_ok [.agg e.c] = some [.q (entOk e)] := by
  obtain ⟨D, rfl, hd⟩ := pred_of hD
  rw [u_impl_Entry_ok]
  have h1 := d_ValOk hd e.v ht
  simp only [c_impl_Entry_ok, go_sem, Nat.reduceEqDiff, Nat.reduceAdd, reduceIte, reduceCtorEq, Nat.reduceLeDiff, Nat.reduceLT, h1, d_in (show 1 ≤ D by omega), entOk]
theorem d_Entry_less {D : Nat} (hD : 2 ≤ D) (a b : Ent) : den pr D f_impl_Entry_less [.agg a.c, .agg b.c] = some [.q (entLess a b)] := by
  obtain ⟨D, rfl, hd⟩ := pred_of hD
  rw [u_impl_Entry_less]
  have h1 := d_ValLess hd a.v b.v
  simp only [c_impl_Entry_less, go_sem, Nat.reduceEqDiff, Nat.reduceAdd, reduceIte, reduceCtorEq, Nat.reduceLeDiff, Nat.reduceLT, h1, entLess, val_eq]
  by_cases h : a.v = b.v
  · rw [h, valLess_self]; simp
  · simp [h]
theorem d_l8Less {D : Nat} (hD : 2 ≤ D) (a b : Ent) : den pr D f_spec_l8Less [.agg a.c, .agg b.c] = some [.q (entLess a b)] := by
  obtain ⟨D, rfl, hd⟩ := pred_of hD
  rw [u_spec_l8Less]
  have h1 := d_spec_ValLess hd a.v b.v
  simp only [c_spec_l8Less, go_sem, Nat.reduceEqDiff, Nat.reduceAdd, reduceIte, reduceCtorEq, Nat.reduceLeDiff, Nat.reduceLT, h1, entLess, val_eq, ret_cond]

/-! ### IndexOk -/
def chOk (p : Option Ent) (e : Ent) : Bool := entOk e && (match p with | none => true | some a => entLess a e)
def chain : Option Ent → List Ent → Bool
  | _, [] => true
  | p, e :: es => chOk p e && chain (some e) es
theorem chain_run : ∀ (es : List Ent) (i : Nat) (p : Option Ent), (∃ q, runI (fun _ p e => if chOk p e then .inl (some e) else .inr ()) i p es = (if chain p es then .inl q else .inr () : Option Ent ⊕ Unit))
  | [], i, p => ⟨p, rfl⟩
  | e :: es, i, p => by
    unfold runI
    obtain ⟨q, hq⟩ := chain_run es (i + 1) (some e)
    refine ⟨q, ?_⟩
    have : chain p (e :: es) = (chOk p e && chain (some e) es) := rfl
    rw [this]
    cases chOk p e with
    | true => simp only [if_true, Bool.true_and]; exact hq
    | false => rfl
def indexOk (es : List Ent) : Bool := chain none es && decide ((es.length : Int) ≤ 16)
def prevAt (xs : List Ent) (i : Nat) (p : Option Ent) : Prop := (i = 0 ∧ p = none) ∨ ∃ j a, i = j + 1 ∧ p = some a ∧ xs[j]? = some a
theorem map_at {α β : Type} {f : α → β} {l : List α} {i : Nat} {x : α} (h : l[i]? = some x) : (l.map f)[i]? = some (f x) := by rw [List.getElem?_map, h]; rfl
theorem sub_one {i : Nat} (h : i < 2 ^ 62) : IntKind.i64.wrap (((i + 1 : Nat) : Int) - 1) = (i : Int) := by rw [wrap_i64 (by omega) (by omega)]; omega
theorem neg_wrap {i : Nat} (h : i = 0) : ¬ (0 : Int) ≤ IntKind.i64.wrap ((i : Int) - 1) := by subst h; decide
structure Small (es : List Ent) : Prop where
  len : es.length ≤ big
  txt : ∀ e ∈ es, e.v.t.size ≤ big

theorem lp_impl_IndexOk {D : Nat} (hD : 3 ≤ D) (es : List Ent) (hs : Small es) :
    Ended (loopN (exec ⟨den pr D, dcl pr D⟩ b_impl_IndexOk_0) [0, 5, 6, 7] rounds ⟨upd (upd (upd (upd (fun _ => .bad) 0 (.lit t_impl_Entry (es.map Ent.c))) 5 (.lit t_impl_Entry (es.map Ent.c))) 6 (.n es.length)) 7 (.n (0 : Nat)), fun _ => none, 0, 0⟩) (Option Ent) Unit (runI (fun _ p e => if chOk p e then .inl (some e) else .inr ()) 0 none es)
      (fun _ o => ∃ σ', o = .exit 0 σ' ∧ σ'.s 0 = .lit t_impl_Entry (es.map Ent.c)) (fun _ o => ∃ σ', o = .ret σ' ∧ σ'.s 2 = .q false) := by
  have hlen := hs.len
  refine loop_all es (fun i (_ : Option Ent) => ⟨upd (upd (upd (upd (fun _ => .bad) 0 (.lit t_impl_Entry (es.map Ent.c))) 5 (.lit t_impl_Entry (es.map Ent.c))) 6 (.n es.length)) 7 (.n i), fun _ => none, 0, 0⟩) _ (prevAt es) _ _ none (.inl ⟨rfl, rfl⟩) hs.len (fun i p e K hc hlt hi => ?_) (fun _ K _ => ?_)
  · have hr := map_at (f := Ent.c) hc
    have hw := wrap_nat (n := i) (by unfold big at hlen; omega)
    have hm := d_Entry_ok hD e (hs.txt e (List.mem_of_getElem? hc))
    rcases hi with ⟨h0, rfl⟩ | ⟨j, a, rfl, rfl, ha⟩
    · have hz : ¬ (0 : Int) < (i : Int) := by omega
      have hneg : ¬ (0 : Int) ≤ IntKind.i64.wrap ((i : Int) - 1) := neg_wrap h0
      have ho : chOk none e = entOk e := Bool.and_true _
      simp only [loopN, e_impl_IndexOk_0, B_impl_IndexOk_0, go_sem, Nat.reduceEqDiff, Nat.reduceAdd, reduceIte, reduceCtorEq, Nat.reduceLeDiff, Nat.reduceLT, hr, hlt, hw, hm, ho, hz, hneg]
      cases entOk e with
      | false => simp only [go_sem, Nat.reduceEqDiff, Nat.reduceAdd, reduceIte, reduceCtorEq, Nat.reduceLeDiff, Nat.reduceLT]; exact ⟨_, rfl, _, rfl, rfl⟩
      | true => simp only [go_sem, Nat.reduceEqDiff, Nat.reduceAdd, reduceIte, reduceCtorEq, Nat.reduceLeDiff, Nat.reduceLT]; exact .inr ⟨i, e, rfl, rfl, hc⟩
    · have hr2 := map_at (f := Ent.c) ha
      have hl := d_Entry_less (show 2 ≤ D by omega) a e
      have hw1 := sub_one (i := j) (by unfold big at hlen; omega)
      have hpos : (0 : Int) < ((j + 1 : Nat) : Int) := by omega
      have ho : chOk (some a) e = (entOk e && entLess a e) := rfl
      simp only [loopN, e_impl_IndexOk_0, B_impl_IndexOk_0, go_sem, Nat.reduceEqDiff, Nat.reduceAdd, reduceIte, reduceCtorEq, Nat.reduceLeDiff, Nat.reduceLT, hr, hlt, hw, hm, ho, hr2, hl, hw1, hpos]
      cases entOk e with
      | false => simp only [go_sem, Nat.reduceEqDiff, Nat.reduceAdd, reduceIte, reduceCtorEq, Nat.reduceLeDiff, Nat.reduceLT]; exact ⟨_, rfl, _, rfl, rfl⟩
      | true =>
        cases entLess a e with
        | false => simp only [go_sem, Nat.reduceEqDiff, Nat.reduceAdd, reduceIte, reduceCtorEq, Nat.reduceLeDiff, Nat.reduceLT]; exact ⟨_, rfl, _, rfl, rfl⟩
        | true => simp only [go_sem, Nat.reduceEqDiff, Nat.reduceAdd, reduceIte, reduceCtorEq, Nat.reduceLeDiff, Nat.reduceLT]; exact .inr ⟨j + 1, e, rfl, rfl, hc⟩
  · have hi : ¬ es.length < es.length := by omega
    simp only [loopN, e_impl_IndexOk_0, B_impl_IndexOk_0, go_sem, Nat.reduceEqDiff, Nat.reduceAdd, reduceIte, reduceCtorEq, Nat.reduceLeDiff, Nat.reduceLT, hi]
    exact ⟨_, rfl, _, rfl, rfl⟩

theorem lp_spec_IndexOk {D : Nat} (hD : 2 ≤ D) (es : List Ent) (hs : Small es) :
    Ended (loopN (exec ⟨den pr D, dcl pr D⟩ b_spec_IndexOk_0) [0, 3] rounds ⟨upd (upd (fun _ => .bad) 0 (.lit t_impl_Entry (es.map Ent.c))) 3 (.n (0 : Nat)), fun _ => none, 0, 0⟩) (Option Ent) Unit (runI (fun _ p e => if chOk p e then .inl (some e) else .inr ()) 0 none es)
      (fun _ o => ∃ σ', o = .exit 0 σ' ∧ σ'.s 0 = .lit t_impl_Entry (es.map Ent.c)) (fun _ o => ∃ σ', o = .ret σ' ∧ σ'.s 2 = .q false) := by
  have hlen := hs.len
  refine loop_all es (fun i (_ : Option Ent) => ⟨upd (upd (fun _ => .bad) 0 (.lit t_impl_Entry (es.map Ent.c))) 3 (.n i), fun _ => none, 0, 0⟩) _ (prevAt es) _ _ none (.inl ⟨rfl, rfl⟩) hs.len (fun i p e K hc hlt hi => ?_) (fun _ K _ => ?_)
  · have hr := map_at (f := Ent.c) hc
    have hw := wrap_nat (n := i) (by unfold big at hlen; omega)
    have hm := d_spec_ValOk hD e.v (hs.txt e (List.mem_of_getElem? hc))
    have hx : (!valOk e.v || decide (e.id < 1) || decide (60 < e.id)) = !entOk e := by
      unfold entOk inB
      rw [Bool.not_and, Bool.not_and, ← decide_not, ← decide_not, Bool.or_assoc]
      simp only [Int.not_le]
    rcases hi with ⟨h0, rfl⟩ | ⟨j, a, rfl, rfl, ha⟩
    · have hz : ¬ (0 : Int) < (i : Int) := by omega
      have hneg : ¬ (0 : Int) ≤ IntKind.i64.wrap ((i : Int) - 1) := neg_wrap h0
      have ho : chOk none e = entOk e := Bool.and_true _
      simp only [loopN, e_spec_IndexOk_0, B_spec_IndexOk_0, go_sem, Nat.reduceEqDiff, Nat.reduceAdd, reduceIte, reduceCtorEq, Nat.reduceLeDiff, Nat.reduceLT, List.length_map, hr, hlt, hw, hm, ho, hx, hz, hneg]
      cases entOk e with
      | false => simp only [go_sem, Nat.reduceEqDiff, Nat.reduceAdd, reduceIte, reduceCtorEq, Nat.reduceLeDiff, Nat.reduceLT]; exact ⟨_, rfl, _, rfl, rfl⟩
      | true => simp only [go_sem, Nat.reduceEqDiff, Nat.reduceAdd, reduceIte, reduceCtorEq, Nat.reduceLeDiff, Nat.reduceLT]; exact .inr ⟨i, e, rfl, rfl, hc⟩
    · have hr2 := map_at (f := Ent.c) ha
      have hl := d_l8Less hD a e
      have hw1 := sub_one (i := j) (by unfold big at hlen; omega)
      have hpos : (0 : Int) < ((j + 1 : Nat) : Int) := by omega
      have ho : chOk (some a) e = (entOk e && entLess a e) := rfl
      simp only [loopN, e_spec_IndexOk_0, B_spec_IndexOk_0, go_sem, Nat.reduceEqDiff, Nat.reduceAdd, reduceIte, reduceCtorEq, Nat.reduceLeDiff, Nat.reduceLT, List.length_map, hr, hlt, hw, hm, ho, hx, hr2, hl, hw1, hpos]
      cases entOk e with
      | false => simp only [go_sem, Nat.reduceEqDiff, Nat.reduceAdd, reduceIte, reduceCtorEq, Nat.reduceLeDiff, Nat.reduceLT]; exact ⟨_, rfl, _, rfl, rfl⟩
      | true =>
        cases entLess a e with
        | false => simp only [go_sem, Nat.reduceEqDiff, Nat.reduceAdd, reduceIte, reduceCtorEq, Nat.reduceLeDiff, Nat.reduceLT]; exact ⟨_, rfl, _, rfl, rfl⟩
        | true => simp only [go_sem, Nat.reduceEqDiff, Nat.reduceAdd, reduceIte, reduceCtorEq, Nat.reduceLeDiff, Nat.reduceLT]; exact .inr ⟨j + 1, e, rfl, rfl, hc⟩
  · have hi : ¬ es.length < es.length := by omega
    simp only [loopN, e_spec_IndexOk_0, B_spec_IndexOk_0, go_sem, Nat.reduceEqDiff, Nat.reduceAdd, reduceIte, reduceCtorEq, Nat.reduceLeDiff, Nat.reduceLT, List.length_map, hi]
    exact ⟨_, rfl, _, rfl, rfl⟩
end Go.Vm.T
end

section
set_option linter.unusedVariables false
set_option linter.unusedSimpArgs false
namespace Go.Vm.T

theorem d_IndexOk {D : Nat} (hD : 4 ≤ D) (es : List Ent) (hs : Small es) : den pr D f_impl_IndexOk [.lit t_impl_Entry (es.map Ent.c)] = some [.q (indexOk es)] := by
  obtain ⟨D, rfl, hd⟩ := pred_of hD
  rw [u_impl_IndexOk]
  obtain ⟨out, lo, lp⟩ := lp_impl_IndexOk hd es hs
  rw [show ((0 : Nat) : Int) = 0 from rfl] at lo
  obtain ⟨q, hq⟩ := chain_run es 0 none
  rw [hq] at lp
  simp only [c_impl_IndexOk, go_sem, Nat.reduceEqDiff, Nat.reduceAdd, reduceIte, reduceCtorEq, Nat.reduceLeDiff, Nat.reduceLT, indexOk, List.length_map]
  cases hc : chain none es with
  | true =>
    rw [hc] at lp
    obtain ⟨σ', rfl, l2⟩ := lp
    simp only [go_sem, Nat.reduceEqDiff, Nat.reduceAdd, reduceIte, reduceCtorEq, Nat.reduceLeDiff, Nat.reduceLT, lo, l2, List.length_map]
  | false =>
    rw [hc] at lp
    obtain ⟨σ', rfl, l2⟩ := lp
    simp only [go_sem, Nat.reduceEqDiff, Nat.reduceAdd, reduceIte, reduceCtorEq, Nat.reduceLeDiff, Nat.reduceLT, lo, l2]
theorem d_spec_IndexOk {D : Nat} (hD : 3 ≤ D) (es : List Ent) (hs : Small es) : den pr D f_spec_IndexOk [.lit t_impl_Entry (es.map Ent.c)] = some [.q (indexOk es)] := by
  obtain ⟨D, rfl, hd⟩ := pred_of hD
  rw [u_spec_IndexOk]
  obtain ⟨out, lo, lp⟩ := lp_spec_IndexOk hd es hs
  rw [show ((0 : Nat) : Int) = 0 from rfl] at lo
  obtain ⟨q, hq⟩ := chain_run es 0 none
  rw [hq] at lp
  simp only [c_spec_IndexOk, go_sem, Nat.reduceEqDiff, Nat.reduceAdd, reduceIte, reduceCtorEq, Nat.reduceLeDiff, Nat.reduceLT, indexOk, List.length_map]
  cases hc : chain none es with
  | true =>
    rw [hc] at lp
    obtain ⟨σ', rfl, l2⟩ := lp
    simp only [go_sem, Nat.reduceEqDiff, Nat.reduceAdd, reduceIte, reduceCtorEq, Nat.reduceLeDiff, Nat.reduceLT, lo, l2, List.length_map]
  | false =>
    rw [hc] at lp
    obtain ⟨σ', rfl, l2⟩ := lp
    simp only [go_sem, Nat.reduceEqDiff, Nat.reduceAdd, reduceIte, reduceCtorEq, Nat.reduceLeDiff, Nat.reduceLT, lo, l2]

/-! ### what a text, an entry, a list weighs -/
def cap : Int := 1048576
def dec (l : Int) (s : Nat) : Int := if l - s < 0 then -1 else l - s
theorem d_szVal {D : Nat} (hD : 1 ≤ D) (v : Val) (l : Int) (h0 : 0 ≤ l) (h1 : l ≤ cap) (hv : v.t.size ≤ maxLen) : den pr D f_laws_szVal [.agg v.c, .n l] = some [.n (dec l v.t.size)] := by
  obtain ⟨D, rfl, hd⟩ := pred_of hD
  rw [u_laws_szVal]
  have hw : IntKind.i64.wrap (l - (v.t.size : Int)) = l - v.t.size := wrap_i64 (by unfold maxLen at hv; omega) (by unfold cap at h1; omega)
  simp only [c_laws_szVal, go_sem, Nat.reduceEqDiff, Nat.reduceAdd, reduceIte, reduceCtorEq, Nat.reduceLeDiff, Nat.reduceLT, hw, dec]
  by_cases h : l - (v.t.size : Int) < 0
  · simp only [h, go_sem, Nat.reduceEqDiff, Nat.reduceAdd, reduceIte, reduceCtorEq, Nat.reduceLeDiff, Nat.reduceLT]
  · simp only [h, go_sem, Nat.reduceEqDiff, Nat.reduceAdd, reduceIte, reduceCtorEq, Nat.reduceLeDiff, Nat.reduceLT]
theorem dec_neg {l : Int} {s : Nat} (h : dec l s < 0) : dec l s = -1 := by unfold dec at *; split at h <;> simp_all
theorem dec_ok {l : Int} {s : Nat} (h : ¬ dec l s < 0) : dec l s = l - s ∧ 0 ≤ l - s := by
  unfold dec at *
  by_cases hn : l - (s : Int) < 0
  · simp [hn] at h
  · rw [if_neg hn]; exact ⟨rfl, by omega⟩
theorem d_szEntry {D : Nat} (hD : 2 ≤ D) (e : Ent) (l : Int) (h0 : 0 ≤ l) (h1 : l ≤ cap) (hv : e.v.t.size ≤ maxLen) : den pr D f_laws_szEntry [.agg e.c, .n l] = some [.n (dec l e.v.t.size)] := by
  obtain ⟨D, rfl, hd⟩ := pred_of hD
  rw [u_laws_szEntry]
  have hw := d_szVal hd e.v l h0 h1 hv
  simp only [c_laws_szEntry, go_sem, Nat.reduceEqDiff, Nat.reduceAdd, reduceIte, reduceCtorEq, Nat.reduceLeDiff, Nat.reduceLT, hw]
  by_cases h : dec l e.v.t.size < 0
  · have h2 : (-1 : Int) < 0 := by decide
    rw [dec_neg h]; simp only [h2, go_sem, Nat.reduceEqDiff, Nat.reduceAdd, reduceIte, reduceCtorEq, Nat.reduceLeDiff, Nat.reduceLT]
  · simp only [h, go_sem, Nat.reduceEqDiff, Nat.reduceAdd, reduceIte, reduceCtorEq, Nat.reduceLeDiff, Nat.reduceLT]

def szRun {α : Type} (w : α → Nat) : Int → List α → Option Int
  | l, [] => some l
  | l, e :: es => if dec l (w e) < 0 then none else szRun w (dec l (w e)) es
def szGo {α : Type} (w : α → Nat) : Nat → Int → α → Int ⊕ Unit := fun _ l e => if dec l (w e) < 0 then .inr () else .inl (dec l (w e))
theorem szRun_run {α : Type} (w : α → Nat) : ∀ (es : List α) (i : Nat) (l : Int), runI (szGo w) i l es = match szRun w l es with | some m => .inl m | none => .inr ()
  | [], i, l => rfl
  | e :: es, i, l => by
    unfold runI szRun szGo
    by_cases h : dec l (w e) < 0
    · simp [h]
    · simp only [h, if_false]; exact szRun_run w es (i + 1) _
theorem szRun_le {α : Type} (w : α → Nat) : ∀ (es : List α) (l m : Int), szRun w l es = some m → m ≤ l ∧ (0 ≤ l → 0 ≤ m) ∧ ∀ e ∈ es, (w e : Int) ≤ l
  | [], l, m, h => by cases h; exact ⟨Int.le_refl _, id, fun e he => nomatch he⟩
  | e :: es, l, m, h => by
    unfold szRun at h
    by_cases hn : dec l (w e) < 0
    · simp [hn] at h
    · simp only [hn, if_false] at h
      obtain ⟨h1, h2, h3⟩ := szRun_le w es _ m h
      obtain ⟨h4, h5⟩ := dec_ok hn
      refine ⟨by omega, fun _ => h2 (by omega), fun x hx => ?_⟩
      rcases List.mem_cons.1 hx with rfl | hx
      · omega
      · have := h3 x hx; omega
abbrev entW : Ent → Nat := fun e => e.v.t.size

theorem lp_szEntryS {D : Nat} (hD : 2 ≤ D) (es : List Ent) (l : Int) (h0 : 0 ≤ l) (h1 : l ≤ cap) (hl : es.length ≤ big) (hs : ∀ e ∈ es, e.v.t.size ≤ maxLen) :
    Ended (loopN (exec ⟨den pr D, dcl pr D⟩ b_laws_szEntryS_0) [0, 1, 5] rounds ⟨upd (upd (upd (fun _ => .bad) 0 (.lit t_laws_Entry (es.map Ent.c))) 1 (.n l)) 5 (.n (0 : Nat)), fun _ => none, 0, 0⟩) Int Unit (runI (szGo entW) 0 l es)
      (fun m o => ∃ σ', o = .exit 0 σ' ∧ σ'.s 1 = .n m) (fun _ o => ∃ σ', o = .ret σ' ∧ σ'.s 4 = .n (-1)) := by
  refine loop_all es (fun i (m : Int) => ⟨upd (upd (upd (fun _ => .bad) 0 (.lit t_laws_Entry (es.map Ent.c))) 1 (.n m)) 5 (.n i), fun _ => none, 0, 0⟩) _ (fun _ m => 0 ≤ m ∧ m ≤ cap) _ _ l ⟨h0, h1⟩ hl (fun i m e K hc hlt hi => ?_) (fun m K _ => ?_)
  · have hr := map_at (f := Ent.c) hc
    have hw := wrap_nat (n := i) (by unfold big at hl; omega)
    have hm := d_szEntry hD e m hi.1 hi.2 (hs e (List.mem_of_getElem? hc))
    simp only [loopN, e_laws_szEntryS_0, B_laws_szEntryS_0, go_sem, Nat.reduceEqDiff, Nat.reduceAdd, reduceIte, reduceCtorEq, Nat.reduceLeDiff, Nat.reduceLT, List.length_map, hr, hlt, hw, hm, szGo]
    by_cases h : dec m (entW e) < 0
    · simp only [h, go_sem, Nat.reduceEqDiff, Nat.reduceAdd, reduceIte, reduceCtorEq, Nat.reduceLeDiff, Nat.reduceLT]; exact ⟨_, rfl, _, rfl, rfl⟩
    · obtain ⟨h4, h5⟩ := dec_ok h
      simp only [h, go_sem, Nat.reduceEqDiff, Nat.reduceAdd, reduceIte, reduceCtorEq, Nat.reduceLeDiff, Nat.reduceLT]
      exact ⟨by omega, by omega⟩
  · have hi : ¬ es.length < es.length := by omega
    simp only [loopN, e_laws_szEntryS_0, B_laws_szEntryS_0, go_sem, Nat.reduceEqDiff, Nat.reduceAdd, reduceIte, reduceCtorEq, Nat.reduceLeDiff, Nat.reduceLT, List.length_map, hi]
    exact ⟨_, rfl, _, rfl, rfl⟩
def szList {α : Type} (w : α → Nat) (l : Int) (es : List α) : Int := if l - es.length < 0 then -1 else (szRun w (l - es.length) es).getD (-1)
theorem d_szEntryS {D : Nat} (hD : 3 ≤ D) (es : List Ent) (l : Int) (h0 : 0 ≤ l) (h1 : l ≤ cap) (hl : es.length ≤ maxLen) (hs : ∀ e ∈ es, e.v.t.size ≤ maxLen) :
    den pr D f_laws_szEntryS [.lit t_laws_Entry (es.map Ent.c), .n l] = some [.n (szList entW l es)] := by
  obtain ⟨D, rfl, hd⟩ := pred_of hD
  rw [u_laws_szEntryS]
  have hw : IntKind.i64.wrap (l - (es.length : Int)) = l - es.length := wrap_i64 (by unfold maxLen at hl; omega) (by unfold cap at h1; omega)
  simp only [c_laws_szEntryS, go_sem, Nat.reduceEqDiff, Nat.reduceAdd, reduceIte, reduceCtorEq, Nat.reduceLeDiff, Nat.reduceLT, List.length_map, hw, szList]
  by_cases h : l - (es.length : Int) < 0
  · simp only [h, go_sem, Nat.reduceEqDiff, Nat.reduceAdd, reduceIte, reduceCtorEq, Nat.reduceLeDiff, Nat.reduceLT]
  · have hb : es.length ≤ big := by unfold cap at h1; unfold big; omega
    obtain ⟨out, lo, lp⟩ := lp_szEntryS hd es (l - es.length) (by omega) (by omega) hb hs
    rw [show ((0 : Nat) : Int) = 0 from rfl] at lo
    rw [szRun_run] at lp
    cases hq : szRun entW (l - es.length) es with
    | some m =>
      rw [hq] at lp
      obtain ⟨σ', rfl, l2⟩ := lp
      simp only [h, go_sem, Nat.reduceEqDiff, Nat.reduceAdd, reduceIte, reduceCtorEq, Nat.reduceLeDiff, Nat.reduceLT, lo, l2, Option.getD_some]
    | none =>
      rw [hq] at lp
      obtain ⟨σ', rfl, l2⟩ := lp
      simp only [h, go_sem, Nat.reduceEqDiff, Nat.reduceAdd, reduceIte, reduceCtorEq, Nat.reduceLeDiff, Nat.reduceLT, lo, l2, Option.getD_none]
theorem szList_ok {α : Type} {w : α → Nat} {l : Int} {es : List α} (h0 : 0 ≤ l) (h : ¬ szList w l es < 0) : szList w l es ≤ l ∧ (es.length : Int) ≤ l ∧ ∀ e ∈ es, (w e : Int) ≤ l := by
  unfold szList at *
  by_cases hn : l - (es.length : Int) < 0
  · simp [hn] at h
  · simp only [hn, if_false] at h ⊢
    cases hq : szRun w (l - es.length) es with
    | none => rw [hq] at h; simp at h
    | some m =>
      obtain ⟨h1, h2, h3⟩ := szRun_le w es _ m hq
      simp only [Option.getD_some]
      exact ⟨by omega, by omega, fun e he => by have := h3 e he; omega⟩
end Go.Vm.T
end

section
set_option linter.unusedVariables false
set_option linter.unusedSimpArgs false
namespace Go.Vm.T

/-! ### a row that is being filled -/
def frow (z : List A) (cs : List (List A)) (i : Nat) : List (List A) := cs.take i ++ List.replicate (cs.length - i) z
theorem frow_zero (z : List A) (cs : List (List A)) : frow z cs 0 = List.replicate cs.length z := by simp [frow]
theorem frow_all (z : List A) (cs : List (List A)) : frow z cs cs.length = cs := by simp [frow]
theorem frow_at {z : List A} {cs : List (List A)} {i : Nat} (h : i < cs.length) : (frow z cs i)[i]? = some z := by
  unfold frow
  rw [List.getElem?_append_right (by simp; omega)]
  simp [List.getElem?_replicate]; omega
theorem frow_set {z : List A} {cs : List (List A)} {i : Nat} {c : List A} (h : cs[i]? = some c) : (frow z cs i).set i c = frow z cs (i + 1) := by
  have hlt := (List.getElem?_eq_some_iff.1 h).1
  unfold frow
  rw [List.set_append_right _ _ (by simp; omega)]
  have h1 : i - (cs.take i).length = 0 := by simp; omega
  rw [h1, List.take_add_one, h]
  obtain ⟨k, hk⟩ : ∃ k, cs.length - i = k + 1 := ⟨cs.length - i - 1, by omega⟩
  have hk2 : cs.length - (i + 1) = k := by omega
  rw [hk, hk2, List.replicate_succ]
  simp
theorem frow_length {z : List A} {cs : List (List A)} {i : Nat} (h : i ≤ cs.length) : (frow z cs i).length = cs.length := by simp [frow]; omega

theorem d_toVal {D : Nat} (hD : 1 ≤ D) (v : Val) : den pr D f_laws_toVal [.agg v.c] = some [.agg v.c] := by
  obtain ⟨D, rfl, hd⟩ := pred_of hD
  rw [u_laws_toVal]
  simp only [c_laws_toVal, go_sem, Nat.reduceEqDiff, Nat.reduceAdd, reduceIte, reduceCtorEq, Nat.reduceLeDiff, Nat.reduceLT]
theorem d_toEntry {D : Nat} (hD : 2 ≤ D) (e : Ent) : den pr D f_laws_toEntry [.agg e.c] = some [.agg e.c] := by
  obtain ⟨D, rfl, hd⟩ := pred_of hD
  have h1 := d_toVal hd e.v
  rw [u_laws_toEntry]
  simp only [c_laws_toEntry, go_sem, Nat.reduceEqDiff, Nat.reduceAdd, reduceIte, reduceCtorEq, Nat.reduceLeDiff, Nat.reduceLT, h1]
abbrev zEnt : List A := [.n 0, .n 0, .s ⟨#[]⟩, .n 0]

theorem lp_toEntryS {D : Nat} (hD : 2 ≤ D) (es : List Ent) (hl : es.length ≤ big) :
    Ended (loopN (exec ⟨den pr D, dcl pr D⟩ b_laws_toEntryS_0) [0, 3, 4] rounds ⟨upd (upd (upd (fun _ => .bad) 0 (.lit t_laws_Entry (es.map Ent.c))) 3 (.ref t_impl_Entry 0 0 es.length es.length true)) 4 (.n (0 : Nat)), upd (fun _ => none) 0 (some ⟨t_impl_Entry, frow zEnt (es.map Ent.c) 0, true, false⟩), 1, 0⟩) Unit Unit (runI (fun _ _ _ => .inl ()) 0 () es)
      (fun m o => ∃ σ', o = .exit 0 σ' ∧ σ'.s 3 = .ref t_impl_Entry 0 0 es.length es.length true ∧ σ'.h 0 = some ⟨t_impl_Entry, es.map Ent.c, true, false⟩) (fun _ o => False) := by
  refine loop_all es (fun i (_ : Unit) => ⟨upd (upd (upd (fun _ => .bad) 0 (.lit t_laws_Entry (es.map Ent.c))) 3 (.ref t_impl_Entry 0 0 es.length es.length true)) 4 (.n i), upd (fun _ => none) 0 (some ⟨t_impl_Entry, frow zEnt (es.map Ent.c) i, true, false⟩), 1, 0⟩) _ (fun _ _ => True) _ _ () trivial hl (fun i m e K hc hlt hi => ?_) (fun m K _ => ?_)
  · have hr := map_at (f := Ent.c) hc
    have hw := wrap_nat (n := i) (by unfold big at hl; omega)
    have hm := d_toEntry hD e
    have hf : (frow zEnt (es.map Ent.c) i)[i]? = some zEnt := frow_at (by simpa using hlt)
    have hs := frow_set (z := zEnt) hr
    have hlen : (frow zEnt (es.map Ent.c) i).length = es.length := by rw [frow_length (by simp; omega)]; simp
    simp only [loopN, e_laws_toEntryS_0, B_laws_toEntryS_0, go_sem, Nat.reduceEqDiff, Nat.reduceAdd, reduceIte, reduceCtorEq, Nat.reduceLeDiff, Nat.reduceLT, List.length_map, hr, hlt, hw, hm, hf, hs, hlen]
  · have hi : ¬ es.length < es.length := by omega
    have ha := frow_all zEnt (es.map Ent.c)
    rw [List.length_map] at ha
    simp only [loopN, e_laws_toEntryS_0, B_laws_toEntryS_0, go_sem, Nat.reduceEqDiff, Nat.reduceAdd, reduceIte, reduceCtorEq, Nat.reduceLeDiff, Nat.reduceLT, List.length_map, hi, ha]
    exact ⟨_, rfl, _, rfl, rfl, rfl⟩
theorem run_unit {α : Type} : ∀ (es : List α) (i : Nat), runI (fun _ (_ : Unit) _ => (.inl () : Unit ⊕ Unit)) i () es = .inl ()
  | [], _ => rfl
  | e :: es, i => by unfold runI; exact run_unit es (i + 1)
theorem d_toEntryS {D : Nat} (hD : 3 ≤ D) (es : List Ent) (hl : es.length ≤ big) : den pr D f_laws_toEntryS [.lit t_laws_Entry (es.map Ent.c)] = some [.olit t_impl_Entry (es.map Ent.c)] := by
  obtain ⟨D, rfl, hd⟩ := pred_of hD
  rw [u_laws_toEntryS]
  obtain ⟨out, lo, lp⟩ := lp_toEntryS hd es hl
  rw [run_unit] at lp
  obtain ⟨σ', rfl, l2, l3⟩ := lp
  rw [show ((0 : Nat) : Int) = 0 from rfl, frow_zero, List.length_map] at lo
  simp only [c_laws_toEntryS, go_sem, Nat.reduceEqDiff, Nat.reduceAdd, reduceIte, reduceCtorEq, Nat.reduceLeDiff, Nat.reduceLT, List.length_map, hl, lo, l2, l3]

/-! ### what is equal to itself -/
theorem d_eqVal {D : Nat} (hD : 1 ≤ D) (v : Val) : den pr D f_laws_eqVal [.agg v.c, .agg v.c] = some [.q true] := by
  obtain ⟨D, rfl, hd⟩ := pred_of hD
  rw [u_laws_eqVal]
  simp only [c_laws_eqVal, go_sem, Nat.reduceEqDiff, Nat.reduceAdd, reduceIte, reduceCtorEq, Nat.reduceLeDiff, Nat.reduceLT]
theorem d_eqEntry {D : Nat} (hD : 2 ≤ D) (e : Ent) : den pr D f_laws_eqEntry [.agg e.c, .agg e.c] = some [.q true] := by
  obtain ⟨D, rfl, hd⟩ := pred_of hD
  have h1 := d_eqVal hd e.v
  rw [u_laws_eqEntry]
  simp only [c_laws_eqEntry, go_sem, Nat.reduceEqDiff, Nat.reduceAdd, reduceIte, reduceCtorEq, Nat.reduceLeDiff, Nat.reduceLT, h1]
theorem lp_eqEntryS {D : Nat} (hD : 2 ≤ D) (es : List Ent) (hl : es.length ≤ big) :
    Ended (loopN (exec ⟨den pr D, dcl pr D⟩ b_laws_eqEntryS_0) [0, 1, 5] rounds ⟨upd (upd (upd (fun _ => .bad) 0 (.lit t_impl_Entry (es.map Ent.c))) 1 (.lit t_impl_Entry (es.map Ent.c))) 5 (.n (0 : Nat)), fun _ => none, 0, 0⟩) Unit Unit (runI (fun _ _ _ => .inl ()) 0 () es)
      (fun m o => ∃ σ', o = .exit 0 σ') (fun _ o => False) := by
  refine loop_all es (fun i (_ : Unit) => ⟨upd (upd (upd (fun _ => .bad) 0 (.lit t_impl_Entry (es.map Ent.c))) 1 (.lit t_impl_Entry (es.map Ent.c))) 5 (.n i), fun _ => none, 0, 0⟩) _ (fun _ _ => True) _ _ () trivial hl (fun i m e K hc hlt hi => ?_) (fun m K _ => ?_)
  · have hr := map_at (f := Ent.c) hc
    have hw := wrap_nat (n := i) (by unfold big at hl; omega)
    have hm := d_eqEntry hD e
    simp only [loopN, e_laws_eqEntryS_0, B_laws_eqEntryS_0, go_sem, Nat.reduceEqDiff, Nat.reduceAdd, reduceIte, reduceCtorEq, Nat.reduceLeDiff, Nat.reduceLT, List.length_map, hr, hlt, hw, hm]
  · have hi : ¬ es.length < es.length := by omega
    simp only [loopN, e_laws_eqEntryS_0, B_laws_eqEntryS_0, go_sem, Nat.reduceEqDiff, Nat.reduceAdd, reduceIte, reduceCtorEq, Nat.reduceLeDiff, Nat.reduceLT, List.length_map, hi]
    exact ⟨_, rfl, _, rfl⟩
theorem d_eqEntryS {D : Nat} (hD : 3 ≤ D) (es : List Ent) (hl : es.length ≤ big) : den pr D f_laws_eqEntryS [.lit t_impl_Entry (es.map Ent.c), .lit t_impl_Entry (es.map Ent.c)] = some [.q true] := by
  obtain ⟨D, rfl, hd⟩ := pred_of hD
  rw [u_laws_eqEntryS]
  obtain ⟨out, lo, lp⟩ := lp_eqEntryS hd es hl
  rw [run_unit] at lp
  obtain ⟨σ', rfl⟩ := lp
  rw [show ((0 : Nat) : Int) = 0 from rfl] at lo
  simp only [c_laws_eqEntryS, go_sem, Nat.reduceEqDiff, Nat.reduceAdd, reduceIte, reduceCtorEq, Nat.reduceLeDiff, Nat.reduceLT, List.length_map, lo]
end Go.Vm.T
end

section
set_option linter.unusedVariables false
set_option linter.unusedSimpArgs false
namespace Go.Vm.T

/-- What the bounds say of a list that passed them. -/
theorem small_of {l : Int} {es : List Ent} (h0 : 0 ≤ l) (h1 : l ≤ cap) (h : ¬ szList entW l es < 0) : Small es := by
  obtain ⟨_, h2, h3⟩ := szList_ok h0 h
  unfold cap at h1
  exact ⟨by unfold big; omega, fun e he => by have := h3 e he; unfold big; simp only [entW] at this; omega⟩

theorem rowsSl_map {α : Type} (f : α → List A) (h : ∀ x, rowSl (f x) = false) : ∀ l : List α, rowsSl (l.map f) = false
  | [] => rfl
  | x :: l => by
    have : rowsSl ((x :: l).map f) = (rowSl (f x) || rowsSl (l.map f)) := rfl
    rw [this, h, rowsSl_map f h l]
    rfl
theorem rowsSl_ent (es : List Ent) : rowsSl (es.map Ent.c) = false := rowsSl_map _ (fun _ => rfl) es
theorem take_map {α β : Type} (f : α → β) (l : List α) : (l.map f).take l.length = l.map f := List.take_of_length_le (by simp)

structure Fit (es : List Ent) : Prop where
  len : es.length ≤ maxLen
  txt : ∀ e ∈ es, e.v.t.size ≤ maxLen

theorem d_FnExactIndexOk {D : Nat} (hD : 5 ≤ D) (es : List Ent) (hf : Fit es) : den pr D f_laws_FnExactIndexOk [.lit t_laws_Entry (es.map Ent.c)] = some [.q true] := by
  obtain ⟨D, rfl, hd⟩ := pred_of hD
  rw [u_laws_FnExactIndexOk]
  have h1 := d_szEntryS (show 3 ≤ D by omega) es 1048576 (by decide) (by decide) hf.len hf.txt
  by_cases h : szList entW 1048576 es < 0
  · simp only [c_laws_FnExactIndexOk, go_sem, Nat.reduceEqDiff, Nat.reduceAdd, reduceIte, reduceCtorEq, Nat.reduceLeDiff, Nat.reduceLT, h1, h]
  · have hs := small_of (by decide) (by decide) h
    have h2 := d_toEntryS (show 3 ≤ D by omega) es hs.len
    have h3 := d_spec_IndexOk (show 3 ≤ D by omega) es hs
    have h4 := d_IndexOk (show 4 ≤ D by omega) es hs
    have h5 := d_eqEntryS (show 3 ≤ D by omega) es hs.len
    simp only [c_laws_FnExactIndexOk, go_sem, Nat.reduceEqDiff, Nat.reduceAdd, reduceIte, reduceCtorEq, Nat.reduceLeDiff, Nat.reduceLT, h1, h, h2, h3, h4, h5, List.length_map, Nat.le_refl, take_map, rowsSl_ent]
end Go.Vm.T
end

section
set_option linter.unusedVariables false
set_option linter.unusedSimpArgs false
namespace Go.Vm.T

/-! ### IndexOnce -/
def twice (p : Option Ent) (e : Ent) : Bool := match p with
  | none => false
  | some a => !decide (e.v.k = 0) && decide (e.v = a.v)
def onceG : Nat → Option Ent → Ent → Option Ent ⊕ Unit := fun _ p e => if twice p e then .inr () else .inl (some e)
def indexOnce (es : List Ent) : Bool := (match runI onceG 0 none es with | .inl _ => true | .inr _ => false) && indexOk es

theorem lp_impl_IndexOnce {D : Nat} (es : List Ent) (hs : Small es) :
    Ended (loopN (exec ⟨den pr D, dcl pr D⟩ b_impl_IndexOnce_0) [0, 5, 6, 7] rounds ⟨upd (upd (upd (upd (fun _ => .bad) 0 (.lit t_impl_Entry (es.map Ent.c))) 5 (.lit t_impl_Entry (es.map Ent.c))) 6 (.n es.length)) 7 (.n (0 : Nat)), fun _ => none, 0, 0⟩) (Option Ent) Unit (runI onceG 0 none es)
      (fun _ o => ∃ σ', o = .exit 0 σ' ∧ σ'.s 0 = .lit t_impl_Entry (es.map Ent.c)) (fun _ o => ∃ σ', o = .ret σ' ∧ σ'.s 2 = .q false) := by
  have hlen := hs.len
  refine loop_all es (fun i (_ : Option Ent) => ⟨upd (upd (upd (upd (fun _ => .bad) 0 (.lit t_impl_Entry (es.map Ent.c))) 5 (.lit t_impl_Entry (es.map Ent.c))) 6 (.n es.length)) 7 (.n i), fun _ => none, 0, 0⟩) _ (prevAt es) _ _ none (.inl ⟨rfl, rfl⟩) hs.len (fun i p e K hc hlt hi => ?_) (fun _ K _ => ?_)
  · have hr := map_at (f := Ent.c) hc
    have hw := wrap_nat (n := i) (by unfold big at hlen; omega)
    rcases hi with ⟨h0, rfl⟩ | ⟨j, a, rfl, rfl, ha⟩
    · have hz : ¬ (0 : Int) < (i : Int) := by omega
      have hneg : ¬ (0 : Int) ≤ IntKind.i64.wrap ((i : Int) - 1) := neg_wrap h0
      simp only [loopN, e_impl_IndexOnce_0, B_impl_IndexOnce_0, go_sem, Nat.reduceEqDiff, Nat.reduceAdd, reduceIte, reduceCtorEq, Nat.reduceLeDiff, Nat.reduceLT, hr, hlt, hw, hz, hneg, onceG, twice]
      exact .inr ⟨i, e, rfl, rfl, hc⟩
    · have hr2 := map_at (f := Ent.c) ha
      have hw1 := sub_one (i := j) (by unfold big at hlen; omega)
      have hpos : (0 : Int) < ((j + 1 : Nat) : Int) := by omega
      have ht : (!decide (e.v.k = 0) && decide (e.v = a.v)) = twice (some a) e := rfl
      simp only [loopN, e_impl_IndexOnce_0, B_impl_IndexOnce_0, go_sem, Nat.reduceEqDiff, Nat.reduceAdd, reduceIte, reduceCtorEq, Nat.reduceLeDiff, Nat.reduceLT, hr, hlt, hw, hr2, hw1, hpos, onceG, val_eq, ht]
      cases twice (some a) e with
      | true => simp only [go_sem, Nat.reduceEqDiff, Nat.reduceAdd, reduceIte, reduceCtorEq, Nat.reduceLeDiff, Nat.reduceLT]; exact ⟨_, rfl, _, rfl, rfl⟩
      | false => simp only [go_sem, Nat.reduceEqDiff, Nat.reduceAdd, reduceIte, reduceCtorEq, Nat.reduceLeDiff, Nat.reduceLT]; exact .inr ⟨j + 1, e, rfl, rfl, hc⟩
  · have hi : ¬ es.length < es.length := by omega
    simp only [loopN, e_impl_IndexOnce_0, B_impl_IndexOnce_0, go_sem, Nat.reduceEqDiff, Nat.reduceAdd, reduceIte, reduceCtorEq, Nat.reduceLeDiff, Nat.reduceLT, hi]
    exact ⟨_, rfl, _, rfl, rfl⟩

/-- The reference's walk begins at the second: the tail of the list, with the first ahead of it. -/
theorem lp_spec_IndexOnce {D : Nat} (e0 : Ent) (es : List Ent) (hs : Small (e0 :: es)) :
    Ended (loopN (exec ⟨den pr D, dcl pr D⟩ b_spec_IndexOnce_0) [0, 3] rounds ⟨upd (upd (fun _ => .bad) 0 (.lit t_impl_Entry ((e0 :: es).map Ent.c))) 3 (.n ((0 + 1 : Nat) : Int)), fun _ => none, 0, 0⟩) (Option Ent) Unit (runI onceG 0 (some e0) es)
      (fun _ o => ∃ σ', o = .exit 0 σ' ∧ σ'.s 0 = .lit t_impl_Entry ((e0 :: es).map Ent.c)) (fun _ o => ∃ σ', o = .ret σ' ∧ σ'.s 2 = .q false) := by
  have hlen := hs.len
  have hl2 : (e0 :: es).length = es.length + 1 := rfl
  refine loop_all es (fun i (_ : Option Ent) => ⟨upd (upd (fun _ => .bad) 0 (.lit t_impl_Entry ((e0 :: es).map Ent.c))) 3 (.n ((i + 1 : Nat) : Int)), fun _ => none, 0, 0⟩) _ (fun i p => ∃ a, p = some a ∧ (e0 :: es)[i]? = some a) _ _ (some e0) ⟨e0, rfl, rfl⟩ (by omega) (fun i p e K hc hlt hi => ?_) (fun _ K _ => ?_)
  · obtain ⟨a, rfl, ha⟩ := hi
    have hr : ((e0 :: es).map Ent.c)[i + 1]? = some e.c := map_at (f := Ent.c) (by rw [List.getElem?_cons_succ]; exact hc)
    have hlt' : i + 1 < (e0 :: es).length := by omega
    have hw := wrap_nat (n := i + 1) (by unfold big at hlen; omega)
    have hr2 := map_at (f := Ent.c) ha
    have hw1 := sub_one (i := i) (by unfold big at hlen; omega)
    have hc2 : (e0 :: es)[i + 1]? = some e := by rw [List.getElem?_cons_succ]; exact hc
    generalize e0 :: es = l at *
    have ht : (!decide (e.v.k = 0) && decide (e.v = a.v)) = twice (some a) e := rfl
    simp only [loopN, e_spec_IndexOnce_0, B_spec_IndexOnce_0, go_sem, Nat.reduceEqDiff, Nat.reduceAdd, reduceIte, reduceCtorEq, Nat.reduceLeDiff, Nat.reduceLT, List.length_map, hr, hlt', hw, hr2, hw1, onceG, val_eq, ht]
    cases twice (some a) e with
    | true => simp only [go_sem, Nat.reduceEqDiff, Nat.reduceAdd, reduceIte, reduceCtorEq, Nat.reduceLeDiff, Nat.reduceLT]; exact ⟨_, rfl, _, rfl, rfl⟩
    | false => simp only [go_sem, Nat.reduceEqDiff, Nat.reduceAdd, reduceIte, reduceCtorEq, Nat.reduceLeDiff, Nat.reduceLT]; exact ⟨e, rfl, hc2⟩
  · have hi : ¬ es.length + 1 < (e0 :: es).length := by omega
    generalize e0 :: es = l at *
    simp only [loopN, e_spec_IndexOnce_0, B_spec_IndexOnce_0, go_sem, Nat.reduceEqDiff, Nat.reduceAdd, reduceIte, reduceCtorEq, Nat.reduceLeDiff, Nat.reduceLT, List.length_map, hi]
    exact ⟨_, rfl, _, rfl, rfl⟩
theorem lp_spec_IndexOnce0 {D : Nat} :
    Ended (loopN (exec ⟨den pr D, dcl pr D⟩ b_spec_IndexOnce_0) [0, 3] rounds ⟨upd (upd (fun _ => .bad) 0 (.lit t_impl_Entry [])) 3 (.n ((0 + 1 : Nat) : Int)), fun _ => none, 0, 0⟩) Unit Unit (runI (fun _ _ (_ : Unit) => .inl ()) 0 () [])
      (fun _ o => ∃ σ', o = .exit 0 σ' ∧ σ'.s 0 = .lit t_impl_Entry []) (fun _ o => ∃ σ', o = .ret σ' ∧ σ'.s 2 = .q false) := by
  refine loop_all [] (fun i (_ : Unit) => ⟨upd (upd (fun _ => .bad) 0 (.lit t_impl_Entry [])) 3 (.n ((i + 1 : Nat) : Int)), fun _ => none, 0, 0⟩) _ (fun i p => True) _ _ () trivial (by decide) (fun i p e K hc hlt hi => ?_) (fun _ K _ => ?_)
  · cases hlt
  · have hi : ¬ ((1 : Int) < 0) := by decide
    simp only [loopN, e_spec_IndexOnce_0, B_spec_IndexOnce_0, go_sem, Nat.reduceEqDiff, Nat.reduceAdd, reduceIte, reduceCtorEq, Nat.reduceLeDiff, Nat.reduceLT, Int.natCast_zero, Int.natCast_one, hi, Int.ofNat_lt]
    exact ⟨_, rfl, _, rfl, rfl⟩
theorem runI_at {α β ρ : Type} {g : Nat → β → α → β ⊕ ρ} (h : ∀ i j b x, g i b x = g j b x) : ∀ (xs : List α) (i j : Nat) (b : β), runI g i b xs = runI g j b xs
  | [], _, _, _ => rfl
  | x :: xs, i, j, b => by
    unfold runI
    rw [h i j]
    cases g j b x with
    | inl b' => exact runI_at h xs _ _ b'
    | inr r => rfl
theorem d_IndexOnce {D : Nat} (hD : 5 ≤ D) (es : List Ent) (hs : Small es) : den pr D f_impl_IndexOnce [.lit t_impl_Entry (es.map Ent.c)] = some [.q (indexOnce es)] := by
  obtain ⟨D, rfl, hd⟩ := pred_of hD
  rw [u_impl_IndexOnce]
  obtain ⟨out, lo, lp⟩ := lp_impl_IndexOnce (D := D) es hs
  rw [show ((0 : Nat) : Int) = 0 from rfl] at lo
  have h1 := d_IndexOk hd es hs
  simp only [c_impl_IndexOnce, go_sem, Nat.reduceEqDiff, Nat.reduceAdd, reduceIte, reduceCtorEq, Nat.reduceLeDiff, Nat.reduceLT, indexOnce, List.length_map]
  cases hc : runI onceG 0 none es with
  | inl q =>
    rw [hc] at lp
    obtain ⟨σ', rfl, l2⟩ := lp
    simp only [go_sem, Nat.reduceEqDiff, Nat.reduceAdd, reduceIte, reduceCtorEq, Nat.reduceLeDiff, Nat.reduceLT, lo, l2, h1]
  | inr q =>
    rw [hc] at lp
    obtain ⟨σ', rfl, l2⟩ := lp
    simp only [go_sem, Nat.reduceEqDiff, Nat.reduceAdd, reduceIte, reduceCtorEq, Nat.reduceLeDiff, Nat.reduceLT, lo, l2]
theorem d_spec_IndexOnce {D : Nat} (hD : 4 ≤ D) (es : List Ent) (hs : Small es) : den pr D f_spec_IndexOnce [.lit t_impl_Entry (es.map Ent.c)] = some [.q (indexOnce es)] := by
  obtain ⟨D, rfl, hd⟩ := pred_of hD
  rw [u_spec_IndexOnce]
  have h1 := d_spec_IndexOk hd es hs
  cases es with
  | nil =>
    obtain ⟨out, lo, lp⟩ := lp_spec_IndexOnce0 (D := D)
    rw [show ((0 + 1 : Nat) : Int) = 1 from rfl] at lo
    obtain ⟨σ', rfl, l2⟩ := lp
    rw [List.map_nil] at h1
    simp only [c_spec_IndexOnce, go_sem, Nat.reduceEqDiff, Nat.reduceAdd, reduceIte, reduceCtorEq, Nat.reduceLeDiff, Nat.reduceLT, indexOnce, lo, l2, h1, runI]
  | cons e0 es =>
    obtain ⟨out, lo, lp⟩ := lp_spec_IndexOnce (D := D) e0 es hs
    rw [show ((0 + 1 : Nat) : Int) = 1 from rfl] at lo
    have hr : runI onceG 0 none (e0 :: es) = runI onceG 0 (some e0) es := by
      rw [runI]
      exact runI_at (fun _ _ _ _ => rfl) es 1 0 (some e0)
    have hr' : indexOnce (e0 :: es) = ((match runI onceG 0 (some e0) es with | .inl _ => true | .inr _ => false) && indexOk (e0 :: es)) := by unfold indexOnce; rw [hr]
    rw [hr']
    generalize e0 :: es = l at *
    cases hc : runI onceG 0 (some e0) es with
    | inl q =>
      rw [hc] at lp
      obtain ⟨σ', rfl, l2⟩ := lp
      simp only [c_spec_IndexOnce, go_sem, Nat.reduceEqDiff, Nat.reduceAdd, reduceIte, reduceCtorEq, Nat.reduceLeDiff, Nat.reduceLT, lo, l2, h1]
    | inr q =>
      rw [hc] at lp
      obtain ⟨σ', rfl, l2⟩ := lp
      simp only [c_spec_IndexOnce, go_sem, Nat.reduceEqDiff, Nat.reduceAdd, reduceIte, reduceCtorEq, Nat.reduceLeDiff, Nat.reduceLT, lo, l2]

theorem d_FnExactIndexOnce {D : Nat} (hD : 6 ≤ D) (es : List Ent) (hf : Fit es) : den pr D f_laws_FnExactIndexOnce [.lit t_laws_Entry (es.map Ent.c)] = some [.q true] := by
  obtain ⟨D, rfl, hd⟩ := pred_of hD
  rw [u_laws_FnExactIndexOnce]
  have h1 := d_szEntryS (show 3 ≤ D by omega) es 1048576 (by decide) (by decide) hf.len hf.txt
  by_cases h : szList entW 1048576 es < 0
  · simp only [c_laws_FnExactIndexOnce, go_sem, Nat.reduceEqDiff, Nat.reduceAdd, reduceIte, reduceCtorEq, Nat.reduceLeDiff, Nat.reduceLT, h1, h]
  · have hs := small_of (by decide) (by decide) h
    have h2 := d_toEntryS (show 3 ≤ D by omega) es hs.len
    have h3 := d_spec_IndexOnce (show 4 ≤ D by omega) es hs
    have h4 := d_IndexOnce (show 5 ≤ D by omega) es hs
    have h5 := d_eqEntryS (show 3 ≤ D by omega) es hs.len
    simp only [c_laws_FnExactIndexOnce, go_sem, Nat.reduceEqDiff, Nat.reduceAdd, reduceIte, reduceCtorEq, Nat.reduceLeDiff, Nat.reduceLT, h1, h, h2, h3, h4, h5, List.length_map, Nat.le_refl, take_map, rowsSl_ent]
end Go.Vm.T
end
