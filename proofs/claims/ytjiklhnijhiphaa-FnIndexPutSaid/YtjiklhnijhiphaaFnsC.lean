/-
  What the functions under IndexOff compute; the law in the abstract machine
-/
import Derived.Test.YtjiklhnijhiphaaFnsB
section
set_option linter.unusedVariables false
set_option linter.unusedSimpArgs false
namespace Go.Vm.T

/-! ### where an entry is -/
theorem ent_eq (a b : Ent) : (decide (a.v.k = b.v.k) && (decide (a.v.n = b.v.n) && (decide (a.v.t = b.v.t) && decide (a.id = b.id)))) = decide (a = b) := by
  obtain ⟨⟨k, n, t⟩, i⟩ := a
  obtain ⟨⟨k', n', t'⟩, i'⟩ := b
  simp only [Ent.mk.injEq, Val.mk.injEq]
  by_cases h1 : k = k' <;> by_cases h2 : n = n' <;> by_cases h3 : t = t' <;> by_cases h4 : i = i' <;> simp [h1, h2, h3, h4]
def atG (e : Ent) : Nat → Unit → Ent → Unit ⊕ Nat := fun i _ x => bif decide (x = e) then .inr i else .inl ()
def atL (e : Ent) (es : List Ent) : Option Nat := match runI (atG e) 0 () es with
  | .inl _ => none
  | .inr i => some i
def atI (e : Ent) (es : List Ent) : Int := match atL e es with
  | none => -1
  | some i => i
theorem at_lt (e : Ent) : ∀ (es : List Ent) (i k : Nat), runI (atG e) i () es = .inr k → i ≤ k ∧ k < i + es.length
  | [], i, k, h => nomatch h
  | x :: es, i, k, h => by
    unfold runI atG at h
    by_cases hx : x = e
    · simp [hx] at h
      subst h
      simp
    · simp only [hx, decide_false, cond_false] at h
      have := at_lt e es (i + 1) k h
      simp only [List.length_cons]
      omega
theorem atL_lt {e : Ent} {es : List Ent} {k : Nat} (h : atL e es = some k) : k < es.length := by
  unfold atL at h
  cases hr : runI (atG e) 0 () es with
  | inl _ => rw [hr] at h; cases h
  | inr i =>
    rw [hr] at h
    cases h
    have := at_lt e es 0 k hr
    omega

theorem lp_l8At {E : Env} (e : Ent) (es : List Ent) (hl : es.length ≤ big) :
    Ended (loopN (exec E b_spec_l8At_0) [0, 3, 5] rounds ⟨upd (upd (upd (fun _ => .bad) 0 (.lit t_impl_Entry (es.map Ent.c))) 3 (.ptr 0 0 0)) 5 (.n (0 : Nat)), upd (fun _ => none) 0 (some ⟨t_impl_Entry, [e.c], true, true⟩), 1, 0⟩) Unit Nat (runI (atG e) 0 () es)
      (fun _ o => ∃ σ', o = .exit 0 σ') (fun i o => ∃ σ', o = .ret σ' ∧ σ'.s 4 = .n i) := by
  refine loop_all es (fun i (_ : Unit) => ⟨upd (upd (upd (fun _ => .bad) 0 (.lit t_impl_Entry (es.map Ent.c))) 3 (.ptr 0 0 0)) 5 (.n i), upd (fun _ => none) 0 (some ⟨t_impl_Entry, [e.c], true, true⟩), 1, 0⟩) _ (fun _ _ => True) _ _ () trivial hl (fun i _ x K hc hlt hi => ?_) (fun _ K _ => ?_)
  · have hr := map_at (f := Ent.c) hc
    have hw := wrap_nat (n := i) (by unfold big at hl; omega)
    simp only [loopN, e_spec_l8At_0, B_spec_l8At_0, go_sem, Nat.reduceEqDiff, Nat.reduceAdd, reduceIte, reduceCtorEq, Nat.reduceLeDiff, Nat.reduceLT, List.length_map, hr, hlt, hw, ent_eq, atG]
    generalize decide (x = e) = q
    cases q with
    | true => simp only [go_sem, Nat.reduceEqDiff, Nat.reduceAdd, reduceIte, reduceCtorEq, Nat.reduceLeDiff, Nat.reduceLT]; exact ⟨_, rfl, _, rfl, rfl⟩
    | false => simp only [go_sem, Nat.reduceEqDiff, Nat.reduceAdd, reduceIte, reduceCtorEq, Nat.reduceLeDiff, Nat.reduceLT]
  · have hi : ¬ es.length < es.length := by omega
    simp only [loopN, e_spec_l8At_0, B_spec_l8At_0, go_sem, Nat.reduceEqDiff, Nat.reduceAdd, reduceIte, reduceCtorEq, Nat.reduceLeDiff, Nat.reduceLT, List.length_map, hi]
    exact ⟨_, rfl, _, rfl⟩
theorem d_l8At {D : Nat} (hD : 1 ≤ D) (e : Ent) (es : List Ent) (hl : es.length ≤ big) : den pr D f_spec_l8At [.lit t_impl_Entry (es.map Ent.c), .agg e.c] = some [.n (atI e es)] := by
  obtain ⟨D, rfl, hd⟩ := pred_of hD
  rw [u_spec_l8At]
  obtain ⟨out, lo, lp⟩ := lp_l8At (E := ⟨den pr D, dcl pr D⟩) e es hl
  rw [show ((0 : Nat) : Int) = 0 from rfl] at lo
  unfold atI atL
  cases hr : runI (atG e) 0 () es with
  | inl _ =>
    rw [hr] at lp
    obtain ⟨σ', rfl⟩ := lp
    simp only [c_spec_l8At, go_sem, Nat.reduceEqDiff, Nat.reduceAdd, reduceIte, reduceCtorEq, Nat.reduceLeDiff, Nat.reduceLT, lo]
  | inr i =>
    rw [hr] at lp
    obtain ⟨σ', rfl, l2⟩ := lp
    simp only [c_spec_l8At, go_sem, Nat.reduceEqDiff, Nat.reduceAdd, reduceIte, reduceCtorEq, Nat.reduceLeDiff, Nat.reduceLT, lo, l2]
theorem eq_comm' (a b : Ent) : decide (a = b) = decide (b = a) := by by_cases h : a = b <;> simp [h, eq_comm]
theorem lp_Index {E : Env} (e : Ent) (es : List Ent) (hl : es.length ≤ big) :
    Ended (loopN (exec E b_slices_Index_S_impl_Entry_impl_Entry_0) [0, 3, 7, 8] rounds ⟨upd (upd (upd (upd (fun _ => .bad) 0 (.lit t_impl_Entry (es.map Ent.c))) 3 (.ptr 0 0 0)) 7 (.n es.length)) 8 (.n (0 : Nat)), upd (fun _ => none) 0 (some ⟨t_impl_Entry, [e.c], true, true⟩), 1, 0⟩) Unit Nat (runI (atG e) 0 () es)
      (fun _ o => ∃ σ', o = .exit 0 σ') (fun i o => ∃ σ', o = .ret σ' ∧ σ'.s 4 = .n i) := by
  refine loop_all es (fun i (_ : Unit) => ⟨upd (upd (upd (upd (fun _ => .bad) 0 (.lit t_impl_Entry (es.map Ent.c))) 3 (.ptr 0 0 0)) 7 (.n es.length)) 8 (.n i), upd (fun _ => none) 0 (some ⟨t_impl_Entry, [e.c], true, true⟩), 1, 0⟩) _ (fun _ _ => True) _ _ () trivial hl (fun i _ x K hc hlt hi => ?_) (fun _ K _ => ?_)
  · have hr := map_at (f := Ent.c) hc
    have hw := wrap_nat (n := i) (by unfold big at hl; omega)
    simp only [loopN, e_slices_Index_S_impl_Entry_impl_Entry_0, B_slices_Index_S_impl_Entry_impl_Entry_0, go_sem, Nat.reduceEqDiff, Nat.reduceAdd, reduceIte, reduceCtorEq, Nat.reduceLeDiff, Nat.reduceLT, List.length_map, hr, hlt, hw, ent_eq, eq_comm' e x, atG]
    generalize decide (x = e) = q
    cases q with
    | true => simp only [go_sem, Nat.reduceEqDiff, Nat.reduceAdd, reduceIte, reduceCtorEq, Nat.reduceLeDiff, Nat.reduceLT]; exact ⟨_, rfl, _, rfl, rfl⟩
    | false => simp only [go_sem, Nat.reduceEqDiff, Nat.reduceAdd, reduceIte, reduceCtorEq, Nat.reduceLeDiff, Nat.reduceLT]
  · have hi : ¬ es.length < es.length := by omega
    simp only [loopN, e_slices_Index_S_impl_Entry_impl_Entry_0, B_slices_Index_S_impl_Entry_impl_Entry_0, go_sem, Nat.reduceEqDiff, Nat.reduceAdd, reduceIte, reduceCtorEq, Nat.reduceLeDiff, Nat.reduceLT, List.length_map, hi]
    exact ⟨_, rfl, _, rfl⟩
theorem d_Index {D : Nat} (hD : 1 ≤ D) (e : Ent) (es : List Ent) (hl : es.length ≤ big) : den pr D f_slices_Index_S_impl_Entry_impl_Entry [.lit t_impl_Entry (es.map Ent.c), .agg e.c] = some [.n (atI e es)] := by
  obtain ⟨D, rfl, hd⟩ := pred_of hD
  rw [u_slices_Index_S_impl_Entry_impl_Entry]
  obtain ⟨out, lo, lp⟩ := lp_Index (E := ⟨den pr D, dcl pr D⟩) e es hl
  rw [show ((0 : Nat) : Int) = 0 from rfl] at lo
  unfold atI atL
  cases hr : runI (atG e) 0 () es with
  | inl _ =>
    rw [hr] at lp
    obtain ⟨σ', rfl⟩ := lp
    simp only [c_slices_Index_S_impl_Entry_impl_Entry, go_sem, Nat.reduceEqDiff, Nat.reduceAdd, reduceIte, reduceCtorEq, Nat.reduceLeDiff, Nat.reduceLT, List.length_map, lo]
  | inr i =>
    rw [hr] at lp
    obtain ⟨σ', rfl, l2⟩ := lp
    simp only [c_slices_Index_S_impl_Entry_impl_Entry, go_sem, Nat.reduceEqDiff, Nat.reduceAdd, reduceIte, reduceCtorEq, Nat.reduceLeDiff, Nat.reduceLT, List.length_map, lo, l2]
end Go.Vm.T
end

section
set_option linter.unusedVariables false
set_option linter.unusedSimpArgs false
namespace Go.Vm.T

theorem d_clone {D : Nat} (hD : 2 ≤ D) (rows : List (List A)) (hl : rows.length ≤ big) : den pr D f_impl_clone_impl_Entry [.lit t_impl_Entry rows] = some [.olit t_impl_Entry rows] := by
  obtain ⟨D, rfl, hd⟩ := pred_of hD
  obtain ⟨D, rfl, hd⟩ := pred_of hd
  rw [u_impl_clone_impl_Entry]
  have h1 : den pr (D + 1) f_slices_Clone_S_impl_Entry_impl_Entry [.lit t_impl_Entry rows] = some [.olit t_impl_Entry rows] := by
    rw [u_slices_Clone_S_impl_Entry_impl_Entry]
    simp only [cloneF, hl, go_sem, Nat.reduceEqDiff, Nat.reduceAdd, reduceIte, reduceCtorEq, Nat.reduceLeDiff, Nat.reduceLT]
  have h2 : rowsSl rows = true ∨ rowsSl rows = false := by cases rowsSl rows <;> simp
  rcases h2 with h2 | h2 <;> simp only [c_impl_clone_impl_Entry, go_sem, Nat.reduceEqDiff, Nat.reduceAdd, reduceIte, reduceCtorEq, Nat.reduceLeDiff, Nat.reduceLT, h1, h2, v_slices_Clip_S_impl_Entry_impl_Entry, c_slices_Clip_S_impl_Entry_impl_Entry, Nat.le_refl, Nat.zero_le, Nat.sub_zero, Option.isSome_some, frz]

def offL {α : Type} (i : Nat) (l : List α) : List α := l.take i ++ l.drop (i + 1)
theorem offL_len {α : Type} {i : Nat} {l : List α} (h : i < l.length) : (offL i l).length = l.length - 1 := by
  unfold offL
  simp
  omega
theorem offL_map {α β : Type} (f : α → β) (i : Nat) (l : List α) : offL i (l.map f) = (offL i l).map f := by simp [offL]

theorem d_Delete {D : Nat} (hD : 1 ≤ D) (rows : List (List A)) (i : Nat) (hi : i < rows.length) (hl : rows.length ≤ big) (h : Hp) (m b : Nat) (hb : b < m) (hh : h b = some ⟨t_impl_Entry, rows, true, false⟩) (ex : Bool) :
    dcl pr D f_slices_Delete_S_impl_Entry_impl_Entry [.ref t_impl_Entry b 0 rows.length rows.length ex, .n (i : Int), .n ((i : Int) + 1)] h m = some ([.ref t_impl_Entry b 0 (rows.length - 1) rows.length ex], upd (upd h m (some ⟨t_impl_Entry, [], true, false⟩)) b (some ⟨t_impl_Entry, offL i rows ++ [zEnt], true, false⟩), m + 1 + 1) := by
  obtain ⟨D, rfl, hd⟩ := pred_of hD
  rw [v_slices_Delete_S_impl_Entry_impl_Entry]
  have hbm : ¬ b = m := by omega
  have e1 : (0 : Int) ≤ (i : Int) + 1 := by omega
  have e2 : ((i : Int) + 1).toNat = i + 1 := by omega
  have e3 : ¬ ((i : Int) = (i : Int) + 1) := by omega
  have e4 : i ≤ i + 1 := by omega
  have e5 : i + 1 ≤ rows.length := by omega
  have e6 : i ≤ rows.length := by omega
  have e7 : ¬ rows.length = i := by omega
  have f2 : i + (rows.length - (i + 1)) = rows.length - 1 := by omega
  have f3 : rows.length - 1 ≤ big := by omega
  have f4 : rows.length - 1 ≤ rows.length := by omega
  have f5 : (rows.drop (i + 1)).take (rows.length - (i + 1)) = rows.drop (i + 1) := List.take_of_length_le (by simp)
  have f6 : rows.take i ++ rows.drop (i + 1) = offL i rows := rfl
  have f7 : rows.length - (rows.length - 1) = 1 := by omega
  have g := offL_len hi
  have f8 : (offL i rows ++ rows.drop (rows.length - 1)).take (rows.length - 1) = offL i rows := by rw [← g, List.take_left]
  have f9 : (offL i rows ++ rows.drop (rows.length - 1)).drop (rows.length - 1 + 1) = [] := List.drop_eq_nil_of_le (by simp [g]; omega)
  have fa : rows.length - 1 + 1 ≤ (offL i rows ++ rows.drop (rows.length - 1)).length := by simp [g]; omega
  have fb : List.replicate 1 zEnt = [zEnt] := rfl
  have fc : i + 1 + (rows.length - (i + 1)) ≤ rows.length := by omega
  simp only [c_slices_Delete_S_impl_Entry_impl_Entry, go_sem, Nat.reduceEqDiff, Nat.reduceAdd, reduceIte, reduceCtorEq, Nat.reduceLeDiff, Nat.reduceLT, hh, hb, hbm, hl, e1, e2, e3, e4, e5, e6, e7, fc, f2, f3, f4, f5, f6, f7, f8, f9, fa, fb, upd_upd, Nat.min_self, Nat.le_refl, Nat.zero_le, Nat.sub_zero, List.length_take, List.length_drop, Option.isSome_some, Option.isSome_none]
def offA (e : Ent) (es : List Ent) : List Ent × Bool := if indexOk es then (match atL e es with | none => (es, false) | some i => (offL i es, true)) else ([], false)
theorem offA_len (e : Ent) (es : List Ent) : (offA e es).1.length ≤ es.length := by
  unfold offA
  split
  · split
    · exact Nat.le_refl _
    · rename_i i h
      rw [offL_len (atL_lt h)]
      omega
  · simp
theorem rowsSl_entc (es : List Ent) : rowsSl (es.map Ent.c) = false := rowsSl_ent es

theorem d_spec_IndexOff {D : Nat} (hD : 4 ≤ D) (es : List Ent) (e : Ent) (hs : Small es) : den pr D f_spec_IndexOff [.lit t_impl_Entry (es.map Ent.c), .agg e.c] = some [.olit t_impl_Entry ((offA e es).1.map Ent.c), .q (offA e es).2] := by
  obtain ⟨D, rfl, hd⟩ := pred_of hD
  rw [u_spec_IndexOff]
  have h1 := d_spec_IndexOk hd es hs
  have h2 := d_l8At (show 1 ≤ D by omega) e es hs.len
  have hl := hs.len
  unfold offA
  cases h : indexOk es with
  | false =>
    rw [h] at h1
    simp only [c_spec_IndexOff, go_sem, Nat.reduceEqDiff, Nat.reduceAdd, reduceIte, reduceCtorEq, Nat.reduceLeDiff, Nat.reduceLT, h1, List.map_nil]
  | true =>
    rw [h] at h1
    unfold atI at h2
    cases ha : atL e es with
    | none =>
      rw [ha] at h2
      have hm : (-1 : Int) < 0 := by decide
      simp only [c_spec_IndexOff, go_sem, Nat.reduceEqDiff, Nat.reduceAdd, reduceIte, reduceCtorEq, Nat.reduceLeDiff, Nat.reduceLT, h1, h2, hm, hl, List.length_map, Nat.zero_le, Nat.le_refl]
    | some i =>
      rw [ha] at h2
      have hi := atL_lt ha
      have hm : ¬ ((i : Int) < 0) := by omega
      have hw := wrap_nat (n := i) (by unfold big at hl; omega)
      have e1 : i ≤ es.length := by omega
      have e2 : i + 1 ≤ es.length := by omega
      have e3 : i ≤ big := by omega
      have e4 : i + (es.length - (i + 1)) ≤ big := by omega
      have e5 : (es.map Ent.c).take i ++ (es.map Ent.c).drop (i + 1) = (offL i es).map Ent.c := by rw [← offL_map]; rfl
      have e6 : (offL i es).length = i + (es.length - (i + 1)) := by rw [offL_len hi]; omega
      have e7 : min i es.length = i := by omega
      have e8 : (es.map Ent.c).take es.length = es.map Ent.c := take_map _ _
      have e9 : ((es.map Ent.c).take i).take i = (es.map Ent.c).take i := by rw [List.take_take, Nat.min_self]
      simp only [c_spec_IndexOff, go_sem, Nat.reduceEqDiff, Nat.reduceAdd, reduceIte, reduceCtorEq, Nat.reduceLeDiff, Nat.reduceLT, h1, h2, hm, hl, hw, e1, e2, e3, e4, e5, e6, e7, e8, e9, List.length_map, List.length_take, List.length_drop, Nat.zero_le, Nat.le_refl, Nat.sub_zero, Option.isSome_none]
theorem d_IndexOff {D : Nat} (hD : 5 ≤ D) (es : List Ent) (e : Ent) (hs : Small es) : den pr D f_impl_IndexOff [.lit t_impl_Entry (es.map Ent.c), .agg e.c] = some [.olit t_impl_Entry ((offA e es).1.map Ent.c), .q (offA e es).2] := by
  obtain ⟨D, rfl, hd⟩ := pred_of hD
  rw [u_impl_IndexOff]
  have h1 := d_IndexOk hd es hs
  have h2 := d_Index (show 1 ≤ D by omega) e es hs.len
  have hl := hs.len
  have hlc : (es.map Ent.c).length ≤ big := by simpa using hl
  have h3 := d_clone (show 2 ≤ D by omega) (es.map Ent.c) hlc
  unfold offA
  cases h : indexOk es with
  | false =>
    rw [h] at h1
    simp only [c_impl_IndexOff, go_sem, Nat.reduceEqDiff, Nat.reduceAdd, reduceIte, reduceCtorEq, Nat.reduceLeDiff, Nat.reduceLT, h1, List.map_nil]
  | true =>
    rw [h] at h1
    unfold atI at h2
    cases ha : atL e es with
    | none =>
      rw [ha] at h2
      have hm : (-1 : Int) < 0 := by decide
      simp only [c_impl_IndexOff, go_sem, Nat.reduceEqDiff, Nat.reduceAdd, reduceIte, reduceCtorEq, Nat.reduceLeDiff, Nat.reduceLT, h1, h2, h3, hm, rowsSl_ent, List.length_map, Nat.zero_le, Nat.le_refl]
    | some i =>
      rw [ha] at h2
      have hi := atL_lt ha
      have hm : ¬ ((i : Int) < 0) := by omega
      have hw : IntKind.i64.wrap ((i : Int) + 1) = (i : Int) + 1 := wrap_nat (n := i) (by unfold big at hl; omega)
      have h4 := d_Delete (show 1 ≤ D by omega) (es.map Ent.c) i (by simpa using hi) hlc
      have h5 := d_clone (show 2 ≤ D by omega) ((offL i es).map Ent.c) (by rw [List.length_map, offL_len hi]; omega)
      have e1 : offL i (es.map Ent.c) = (offL i es).map Ent.c := offL_map _ _ _
      have e2 : ((offL i es).map Ent.c ++ [zEnt]).take (es.length - 1) = (offL i es).map Ent.c := by
        rw [← offL_len hi, ← List.length_map (f := Ent.c), List.take_left]
      have e3 : es.length - 1 ≤ (offL i es).length + 1 := by rw [offL_len hi]; omega
      simp only [List.length_map] at h4
      simp only [c_impl_IndexOff, go_sem, Nat.reduceEqDiff, Nat.reduceAdd, reduceIte, reduceCtorEq, Nat.reduceLeDiff, Nat.reduceLT, h1, h2, h3, hm, hw, rowsSl_ent, List.length_map, List.length_append, Nat.zero_le, Nat.le_refl, h4, h5, e1, e2, e3, upd_upd]
end Go.Vm.T
end

section
set_option linter.unusedVariables false
set_option linter.unusedSimpArgs false
namespace Go.Vm.T

theorem d_FnExactIndexOff {D : Nat} (hD : 6 ≤ D) (es : List Ent) (e : Ent) (hf : Fit es) (hv : e.v.t.size ≤ maxLen) : den pr D f_laws_FnExactIndexOff [.lit t_laws_Entry (es.map Ent.c), .agg e.c] = some [.q true] := by
  obtain ⟨D, rfl, hd⟩ := pred_of hD
  rw [u_laws_FnExactIndexOff]
  have h1 := d_szEntryS (show 3 ≤ D by omega) es 1048576 (by decide) (by decide) hf.len hf.txt
  by_cases h : szList entW 1048576 es < 0
  · simp only [c_laws_FnExactIndexOff, go_sem, Nat.reduceEqDiff, Nat.reduceAdd, reduceIte, reduceCtorEq, Nat.reduceLeDiff, Nat.reduceLT, h1, h]
  · have hs := small_of (by decide) (by decide) h
    have hle := (szList_ok (by decide) h).1
    have h1v := d_szEntry (show 2 ≤ D by omega) e _ (by omega) hle hv
    by_cases h' : dec (szList entW 1048576 es) e.v.t.size < 0
    · simp only [c_laws_FnExactIndexOff, go_sem, Nat.reduceEqDiff, Nat.reduceAdd, reduceIte, reduceCtorEq, Nat.reduceLeDiff, Nat.reduceLT, h1, h, h1v, h']
    · have h2 := d_toEntryS (show 3 ≤ D by omega) es hs.len
      have h2v := d_toEntry (show 2 ≤ D by omega) e
      have h3 := d_spec_IndexOff (show 4 ≤ D by omega) es e hs
      have h4 := d_IndexOff (show 5 ≤ D by omega) es e hs
      have h5 := d_eqEntryS (show 3 ≤ D by omega) es hs.len
      have hfl := Nat.le_trans (offA_len e es) hs.len
      have h6 := d_eqEntryS (show 3 ≤ D by omega) _ hfl
      have h7 := fun h n b c ex => d_markEntryS (show 2 ≤ D by omega) es 1 (by decide) hs.len h n b c ex
      have h8 := fun h n b c ex => d_markEntryS (show 2 ≤ D by omega) _ 1 (by decide) hfl h n b c ex
      have h9 := d_heldEntryS (show 2 ≤ D by omega) _ hfl
      have hb1 : ¬ (1 + ((4 * es.length : Nat) : Int) < 0) := by omega
      have hb2 : ¬ (1 + ((4 * (offA e es).1.length : Nat) : Int) < 0) := by omega
      generalize hx : offA e es = x at *
      obtain ⟨fs, q⟩ := x
      simp only at *
      simp only [c_laws_FnExactIndexOff, go_sem, Nat.reduceEqDiff, Nat.reduceAdd, reduceIte, reduceCtorEq, Nat.reduceLeDiff, Nat.reduceLT, h1, h, h1v, h', h2, h2v, h3, h4, h5, h6, h7, h8, h9, hb1, hb2, List.length_map, Nat.le_refl, take_map, rowsSl_ent, rowsSl_int, rowsSl_marks, take_marks, marks_length, low_upd, low_none]
end Go.Vm.T
end
