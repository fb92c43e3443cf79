/-
  What IndexPut computes; the law FnExactIndexPut in the abstract machine
-/
import Derived.Test.YtjiklhnijhiphaaFnsE
section
set_option linter.unusedVariables false
set_option linter.unusedSimpArgs false
namespace Go.Vm.T
/-! ### IndexPut -/
theorem lp_place {D : Nat} (hD : 2 ≤ D) (e : Ent) (es : List Ent) (hl : es.length ≤ big) :
    Ended (loopN (exec ⟨den pr D, dcl pr D⟩ b_impl_place_0) [0, 3, 5] rounds ⟨upd (upd (upd (fun _ => .bad) 0 (.lit t_impl_Entry (es.map Ent.c))) 3 (.ptr 0 0 0)) 5 (.n (0 : Nat)), upd (fun _ => none) 0 (some ⟨t_impl_Entry, [e.c], true, true⟩), 1, 0⟩) Unit Nat (runI (putG e) 0 () es)
      (fun _ o => ∃ σ', o = .exit 0 σ' ∧ σ'.s 5 = .n es.length) (fun i o => ∃ σ', o = .exit 0 σ' ∧ σ'.s 5 = .n i) := by
  refine loop_all es (fun i (_ : Unit) => ⟨upd (upd (upd (fun _ => .bad) 0 (.lit t_impl_Entry (es.map Ent.c))) 3 (.ptr 0 0 0)) 5 (.n i), upd (fun _ => none) 0 (some ⟨t_impl_Entry, [e.c], true, true⟩), 1, 0⟩) _ (fun _ _ => True) _ _ () trivial hl (fun i _ x K hc hlt hi => ?_) (fun _ K _ => ?_)
  · have hr := map_at (f := Ent.c) hc
    have hw := wrap_nat (n := i) (by unfold big at hl; omega)
    have hm := d_Entry_less hD x e
    simp only [loopN, e_impl_place_0, B_impl_place_0, go_sem, Nat.reduceEqDiff, Nat.reduceAdd, reduceIte, reduceCtorEq, Nat.reduceLeDiff, Nat.reduceLT, List.length_map, hr, hlt, hw, hm, putG]
    cases entLess x e with
    | true => simp only [go_sem, Nat.reduceEqDiff, Nat.reduceAdd, reduceIte, reduceCtorEq, Nat.reduceLeDiff, Nat.reduceLT, hw]
    | false => simp only [go_sem, Nat.reduceEqDiff, Nat.reduceAdd, reduceIte, reduceCtorEq, Nat.reduceLeDiff, Nat.reduceLT]; exact ⟨_, rfl, _, rfl, rfl⟩
  · have hi : ¬ es.length < es.length := by omega
    have hr : (es.map Ent.c)[es.length]? = none := by simp
    simp only [loopN, e_impl_place_0, B_impl_place_0, go_sem, Nat.reduceEqDiff, Nat.reduceAdd, reduceIte, reduceCtorEq, Nat.reduceLeDiff, Nat.reduceLT, List.length_map, hi, hr]
    exact ⟨_, rfl, _, rfl, rfl⟩
theorem d_place {D : Nat} (hD : 3 ≤ D) (e : Ent) (es : List Ent) (hl : es.length ≤ big) : den pr D f_impl_place [.lit t_impl_Entry (es.map Ent.c), .agg e.c] = some [.n (putK e es)] := by
  obtain ⟨D, rfl, hd⟩ := pred_of hD
  rw [u_impl_place]
  obtain ⟨out, lo, lp⟩ := lp_place hd e es hl
  rw [show ((0 : Nat) : Int) = 0 from rfl] at lo
  have hk : ∃ σ', out = .exit 0 σ' ∧ σ'.s 5 = .n (putK e es) := by
    unfold putK
    cases hr : runI (putG e) 0 () es with
    | inl _ => rw [hr] at lp; exact lp
    | inr i => rw [hr] at lp; exact lp
  obtain ⟨σ', rfl, l1⟩ := hk
  simp only [c_impl_place, go_sem, Nat.reduceEqDiff, Nat.reduceAdd, reduceIte, reduceCtorEq, Nat.reduceLeDiff, Nat.reduceLT, lo, l1]
def putA (e : Ent) (es : List Ent) : List Ent × Bool := if indexOk es then (if indexOk (putL e es) then (putL e es, true) else (es, false)) else ([], false)
theorem chain_ok : ∀ (es : List Ent) (p : Option Ent), chain p es = true → ∀ e ∈ es, entOk e = true
  | [], _, _, e, he => nomatch he
  | x :: es, p, h, e, he => by
    have hx : chain p (x :: es) = (chOk p x && chain (some x) es) := rfl
    rw [hx, Bool.and_eq_true] at h
    rcases List.mem_cons.1 he with rfl | he
    · have := h.1
      unfold chOk at this
      rw [Bool.and_eq_true] at this
      exact this.1
    · exact chain_ok es _ h.2 e he
theorem ok_mem {es : List Ent} (h : indexOk es = true) {e : Ent} (he : e ∈ es) : entOk e = true := by
  unfold indexOk at h
  rw [Bool.and_eq_true] at h
  exact chain_ok es none h.1 e he
theorem mem_putL (e : Ent) (es : List Ent) : e ∈ putL e es := by unfold putL; simp
theorem Small.put {es : List Ent} (hs : Small es) (hl : es.length + 1 ≤ big) {e : Ent} (he : e.v.t.size ≤ big) : Small (putL e es) := ⟨by rw [putL_len]; exact hl, fun x hx => by
  unfold putL at hx
  rcases List.mem_append.1 hx with hx | hx
  · rcases List.mem_append.1 hx with hx | hx
    · exact hs.txt x (List.mem_of_mem_take hx)
    · rcases List.mem_cons.1 hx with rfl | hx
      · exact he
      · cases hx
  · exact hs.txt x (List.mem_of_mem_drop hx)⟩
theorem putA_len (e : Ent) (es : List Ent) : (putA e es).1.length ≤ es.length + 1 := by
  unfold putA
  split
  · split
    · rw [putL_len]; exact Nat.le_refl _
    · exact Nat.le_succ _
  · simp
theorem d_spec_IndexPut {D : Nat} (hD : 4 ≤ D) (es : List Ent) (e : Ent) (hs : Small es) (hl : es.length + 1 ≤ big) (he : e.v.t.size ≤ big) : den pr D f_spec_IndexPut [.lit t_impl_Entry (es.map Ent.c), .agg e.c] = some [.olit t_impl_Entry ((putA e es).1.map Ent.c), .q (putA e es).2] := by
  obtain ⟨D, rfl, hd⟩ := pred_of hD
  rw [u_spec_IndexPut]
  have h1 := d_spec_IndexOk hd es hs
  have h2 := d_l8Put hd e es hl
  have h3 := d_spec_IndexOk hd (putL e es) (hs.put hl he)
  have hl' := hs.len
  have hpl := putL_len e es
  unfold putA
  cases h : indexOk es with
  | false =>
    rw [h] at h1
    simp only [c_spec_IndexPut, go_sem, Nat.reduceEqDiff, Nat.reduceAdd, reduceIte, reduceCtorEq, Nat.reduceLeDiff, Nat.reduceLT, h1, List.map_nil]
    try rfl
  | true =>
    rw [h] at h1
    cases hp : indexOk (putL e es) with
    | false =>
      rw [hp] at h3
      generalize putL e es = ps at *
      simp only [c_spec_IndexPut, go_sem, Nat.reduceEqDiff, Nat.reduceAdd, reduceIte, reduceCtorEq, Nat.reduceLeDiff, Nat.reduceLT, h1, h2, h3, List.length_map, Nat.le_refl, take_map, rowsSl_ent, hl', Nat.zero_le]
    | true =>
      rw [hp] at h3
      generalize putL e es = ps at *
      simp only [c_spec_IndexPut, go_sem, Nat.reduceEqDiff, Nat.reduceAdd, reduceIte, reduceCtorEq, Nat.reduceLeDiff, Nat.reduceLT, h1, h2, h3, List.length_map, Nat.le_refl, take_map, rowsSl_ent, hl', Nat.zero_le]
theorem insF_eq (e ty ty2 b len cap i b2 cap2 : Nat) (ex ex2 : Bool) (h : Hp) (n : Nat) : insF e [.ref ty b 0 len cap ex, .v (.int .i64 (i : Nat)), .ref ty2 b2 0 1 cap2 ex2] h n = bnd (h b) fun k => bnd (h b2) fun k2 => bnd k2.rows[0]? fun row =>
      if ty = e ∧ ty2 = e ∧ k.own ∧ k.box = false ∧ k.ty = e ∧ len = k.rows.length ∧ k2.box = false ∧ k2.ty = e ∧ ¬ b = b2 ∧ i ≤ len ∧ len + 1 ≤ big then
        some ([.ref e n 0 (len + 1) (len + 1) false], upd (upd h b none) n (some ⟨e, k.rows.take i ++ row :: k.rows.drop i, true, false⟩), n + 1)
      else none := by
  simp [insF]
theorem d_IndexPut {D : Nat} (hD : 5 ≤ D) (es : List Ent) (e : Ent) (hs : Small es) (hl : es.length + 1 ≤ big) (he : e.v.t.size ≤ big) : den pr D f_impl_IndexPut [.lit t_impl_Entry (es.map Ent.c), .agg e.c] = some [.olit t_impl_Entry ((putA e es).1.map Ent.c), .q (putA e es).2] := by
  obtain ⟨D, rfl, hd⟩ := pred_of hD
  rw [u_impl_IndexPut]
  have h1 := d_IndexOk hd es hs
  have h2 := d_place (show 3 ≤ D by omega) e es hs.len
  have h3 := d_IndexOk hd (putL e es) (hs.put hl he)
  have h4 := d_Entry_ok (show 3 ≤ D by omega) e he
  have hl' := hs.len
  have hlc : (es.map Ent.c).length ≤ big := by simpa using hs.len
  have h5 := d_clone (show 2 ≤ D by omega) (es.map Ent.c) hlc
  have h6 := d_clone (show 2 ≤ D by omega) ((putL e es).map Ent.c) (by rw [List.length_map, putL_len]; exact hl)
  have hpl := putL_len e es
  have hle := putK_le e es
  have hm : (es.map Ent.c).take (putK e es) ++ e.c :: (es.map Ent.c).drop (putK e es) = (putL e es).map Ent.c := by unfold putL; simp
  have hok : indexOk (putL e es) = true → entOk e = true := fun h => ok_mem h (mem_putL e es)
  obtain ⟨D, rfl⟩ : ∃ d, D = d + 1 := ⟨D - 1, by omega⟩
  unfold putA
  cases h : indexOk es with
  | false =>
    rw [h] at h1
    simp only [c_impl_IndexPut, go_sem, Nat.reduceEqDiff, Nat.reduceAdd, reduceIte, reduceCtorEq, Nat.reduceLeDiff, Nat.reduceLT, h1, List.map_nil]
    try rfl
  | true =>
    rw [h] at h1
    have hps := hpl.symm
    have hlp : (putL e es).length ≤ big := by rw [hpl]; exact hl
    have htp : ((putL e es).map Ent.c).take (putL e es).length = (putL e es).map Ent.c := take_map _ _
    have heo : indexOk (putL e es) = false ∨ indexOk (putL e es) = true ∧ entOk e = true := by
      cases hq : indexOk (putL e es) with
      | false => exact .inl rfl
      | true => exact .inr ⟨rfl, hok hq⟩
    generalize putL e es = ps at *
    generalize putK e es = k at *
    clear hok
    rcases heo with hq | ⟨hq, hr⟩
    · rw [hq] at h3
      rw [hq]
      generalize entOk e = eo at *
      cases eo with
      | false =>
        simp only [c_impl_IndexPut, go_sem, Nat.reduceEqDiff, Nat.reduceAdd, reduceIte, reduceCtorEq, Nat.reduceLeDiff, Nat.reduceLT, h1, h2, h3, h4, h5, h6, u_slices_Clone_S_impl_Entry_impl_Entry, cloneF, v_slices_Insert_S_impl_Entry_impl_Entry, insF_eq, List.length_map, Nat.le_refl, take_map, rowsSl_ent, hps, hlp, hl', hle, hm, Nat.zero_le, htp]
      | true =>
        simp only [c_impl_IndexPut, go_sem, Nat.reduceEqDiff, Nat.reduceAdd, reduceIte, reduceCtorEq, Nat.reduceLeDiff, Nat.reduceLT, h1, h2, h3, h4, h5, h6, u_slices_Clone_S_impl_Entry_impl_Entry, cloneF, v_slices_Insert_S_impl_Entry_impl_Entry, insF_eq, List.length_map, Nat.le_refl, take_map, rowsSl_ent, hps, hlp, hl', hle, hm, Nat.zero_le, htp]
    · rw [hq] at h3
      rw [hr] at h4
      rw [hq]
      simp only [c_impl_IndexPut, go_sem, Nat.reduceEqDiff, Nat.reduceAdd, reduceIte, reduceCtorEq, Nat.reduceLeDiff, Nat.reduceLT, h1, h2, h3, h4, h5, h6, u_slices_Clone_S_impl_Entry_impl_Entry, cloneF, v_slices_Insert_S_impl_Entry_impl_Entry, insF_eq, List.length_map, Nat.le_refl, take_map, rowsSl_ent, hps, hlp, hl', hle, hm, Nat.zero_le, htp]
end Go.Vm.T
end

section
set_option linter.unusedVariables false
set_option linter.unusedSimpArgs false
namespace Go.Vm.T
theorem szList_len {α : Type} {w : α → Nat} {l : Int} {es : List α} (h : ¬ szList w l es < 0) : (es.length : Int) ≤ l := by
  unfold szList at h
  split at h
  · exact absurd (by decide) h
  · omega
theorem dec_le {l : Int} {s : Nat} (h : ¬ dec l s < 0) : (s : Int) ≤ l := by
  unfold dec at h
  split at h
  · exact absurd (by decide) h
  · omega
theorem d_FnExactIndexPut {D : Nat} (hD : 6 ≤ D) (es : List Ent) (e : Ent) (hf : Fit es) (hv : e.v.t.size ≤ maxLen) : den pr D f_laws_FnExactIndexPut [.lit t_laws_Entry (es.map Ent.c), .agg e.c] = some [.q true] := by
  obtain ⟨D, rfl, hd⟩ := pred_of hD
  rw [u_laws_FnExactIndexPut]
  have h1 := d_szEntryS (show 3 ≤ D by omega) es 1048576 (by decide) (by decide) hf.len hf.txt
  by_cases h : szList entW 1048576 es < 0
  · simp only [c_laws_FnExactIndexPut, go_sem, Nat.reduceEqDiff, Nat.reduceAdd, reduceIte, reduceCtorEq, Nat.reduceLeDiff, Nat.reduceLT, h1, h]
  · have hs := small_of (by decide) (by decide) h
    have hle := (szList_ok (by decide) h).1
    have hle2 := (szList_ok (by decide) h).2
    have h1v := d_szEntry (show 2 ≤ D by omega) e _ (by omega) hle hv
    by_cases h' : dec (szList entW 1048576 es) e.v.t.size < 0
    · simp only [c_laws_FnExactIndexPut, go_sem, Nat.reduceEqDiff, Nat.reduceAdd, reduceIte, reduceCtorEq, Nat.reduceLeDiff, Nat.reduceLT, h1, h, h1v, h']
    · have hel : es.length + 1 ≤ big := by have := szList_len h; unfold big; omega
      have het : e.v.t.size ≤ big := by have := dec_le h'; unfold big; omega
      have h2 := d_toEntryS (show 3 ≤ D by omega) es hs.len
      have h2v := d_toEntry (show 2 ≤ D by omega) e
      have h3 := d_spec_IndexPut (show 4 ≤ D by omega) es e hs hel het
      have h4 := d_IndexPut (show 5 ≤ D by omega) es e hs hel het
      have h5 := d_eqEntryS (show 3 ≤ D by omega) es hs.len
      have hfl := Nat.le_trans (putA_len e es) hel
      have h6 := d_eqEntryS (show 3 ≤ D by omega) _ hfl
      have h7 := fun h n b c ex => d_markEntryS (show 2 ≤ D by omega) es 1 (by decide) hs.len h n b c ex
      have h8 := fun h n b c ex => d_markEntryS (show 2 ≤ D by omega) _ 1 (by decide) hfl h n b c ex
      have h9 := d_heldEntryS (show 2 ≤ D by omega) _ hfl
      have hb1 : ¬ (1 + ((4 * es.length : Nat) : Int) < 0) := by omega
      have hb2 : ¬ (1 + ((4 * (putA e es).1.length : Nat) : Int) < 0) := by omega
      generalize hx : putA e es = x at *
      obtain ⟨fs, q⟩ := x
      simp only at *
      simp only [c_laws_FnExactIndexPut, go_sem, Nat.reduceEqDiff, Nat.reduceAdd, reduceIte, reduceCtorEq, Nat.reduceLeDiff, Nat.reduceLT, h1, h, h1v, h', h2, h2v, h3, h4, h5, h6, h7, h8, h9, hb1, hb2, List.length_map, Nat.le_refl, take_map, rowsSl_ent, rowsSl_int, rowsSl_marks, take_marks, marks_length, low_upd, low_none]
end Go.Vm.T
end
