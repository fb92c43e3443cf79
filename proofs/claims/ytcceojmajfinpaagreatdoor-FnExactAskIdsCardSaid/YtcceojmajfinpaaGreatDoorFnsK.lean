/-
  What is asked by conditions, of both
-/
import Derived.Test.YtcceojmajfinpaaGreatDoorFnsJ
section
set_option linter.unusedVariables false
set_option linter.unusedSectionVars false
set_option linter.unusedSimpArgs false
/- What conditions ask of a row, of both. -/
namespace Go.Vm.T
open Go.Proofs
variable [Pr2]
def hasB (c : CondV) (v : Val) : Bool := if c.how = 1 then decide (v = c.v) else if c.how = 2 then !decide (v.k = 0) && valLess v c.v else !decide (v.k = 0) && valLess c.v v
def hasC (s : List ColV) (row : List Val) (c : CondV) : Bool := match nmAt c.nm s with
  | some i => hasB c (row.getD i zV)
  | none => false
theorem d_l7Has {D : Nat} (hD : 2 ≤ D) (c : CondV) (v : Val) : den pr D f_spec_l7Has [.agg c.c, .agg v.c] = some [.q (hasB c v)] := by
  obtain ⟨D, rfl, hd⟩ := pred_of hD
  rw [u_spec_l7Has]
  have e1 := d_spec_ValLess hd v c.v
  have e2 := d_spec_ValLess hd c.v v
  unfold hasB
  rcases pf (c.how = 1) with h1 | h1
  · simp only [c_spec_l7Has, go_sem, h1, val_eq]
  · rcases pf (c.how = 2) with h2 | h2
    · have h3 : ((2 : Int) = 1) = False := by simp
      rcases pf (v.k = 0) with h0 | h0
      · simp only [c_spec_l7Has, go_sem, h1, h2, h3, h0, e1]
      · simp only [c_spec_l7Has, go_sem, h1, h2, h3, h0, e1]
    · rcases pf (v.k = 0) with h0 | h0
      · simp only [c_spec_l7Has, go_sem, h1, h2, h0, e2]
      · simp only [c_spec_l7Has, go_sem, h1, h2, h0, e2]
theorem d_hasCond {D : Nat} (hD : 4 ≤ D) (s : List ColV) (c : CondV) (row : List Val) (i : Nat) (hi : nmAt c.nm s = some i) (hl : s.length ≤ big) (hrow : i < row.length) :
    den pr D f_impl_hasCond [.lit t_impl_Col (s.map ColV.c), .agg c.c, .lit t_impl_Val (row.map Val.c)] = some [.q (hasC s row c)] := by
  obtain ⟨D, rfl, hd⟩ := pred_of hD
  rw [u_impl_hasCond]
  have e0 := d_colAt (show 3 ≤ D by omega) c.nm s hl
  unfold nmI at e0
  rw [hi] at e0
  simp only at e0
  unfold hasC
  rw [hi]
  simp only
  have hv := map_at (f := Val.c) (getD_at hrow)
  generalize row.getD i zV = v at *
  have i0 : (0 : Int) ≤ (i : Int) := by omega
  have it : ((i : Int)).toNat = i := by omega
  have e1 := d_ValLess (show 1 ≤ D by omega) v c.v
  have e2 := d_ValLess (show 1 ≤ D by omega) c.v v
  unfold hasB
  rcases pf (c.how = 1) with h1 | h1
  · simp only [c_impl_hasCond, go_sem, List.length_map, e0, hv, hrow, i0, it, h1, val_eq]
  · rcases pf (c.how = 2) with h2 | h2
    · have h3 : ((2 : Int) = 1) = False := by simp
      rcases pf (v.k = 0) with h0 | h0
      · simp only [c_impl_hasCond, go_sem, List.length_map, e0, hv, hrow, i0, it, h1, h2, h3, h0, e1]
      · simp only [c_impl_hasCond, go_sem, List.length_map, e0, hv, hrow, i0, it, h1, h2, h3, h0, e1]
    · rcases pf (v.k = 0) with h0 | h0
      · simp only [c_impl_hasCond, go_sem, List.length_map, e0, hv, hrow, i0, it, h1, h2, h0, e2]
      · simp only [c_impl_hasCond, go_sem, List.length_map, e0, hv, hrow, i0, it, h1, h2, h0, e2]
theorem d_AskIds_1 {D : Nat} (hD : 5 ≤ D) (s : List ColV) (c : CondV) (hl : s.length ≤ big) (hv : c.v.t.size ≤ big) : den pr D f_q32 [.agg c.c, .pl [.lit t_impl_Col (s.map ColV.c)] 0] = some [.q (!fitsC s c)] := by
  obtain ⟨D, rfl, hd⟩ := pred_of hD
  rw [u_q32]
  have e1 := d_fitsCond (show 4 ≤ D by omega) s c hl hv
  simp only [c_q32, go_sem, e1]
theorem d_AskIds_2 {D : Nat} (hD : 5 ≤ D) (s : List ColV) (c : CondV) (row : List Val) (i : Nat) (hi : nmAt c.nm s = some i) (hl : s.length ≤ big) (hrow : i < row.length) : den pr D f_q35 [.agg c.c, .pl [.lit t_impl_Col (s.map ColV.c)] 0, .pl [.lit t_impl_Val (row.map Val.c)] 0] = some [.q (!hasC s row c)] := by
  obtain ⟨D, rfl, hd⟩ := pred_of hD
  rw [u_q35]
  have e1 := d_hasCond (show 4 ≤ D by omega) s c row i hi hl hrow
  simp only [c_q35, go_sem, e1]
def cfG (p : CondV → Bool) (i : Nat) (_ : Unit) (c : CondV) : Unit ⊕ Nat := bif p c then .inr i else .inl ()
theorem cf_run (p : CondV → Bool) : ∀ (l : List CondV) (i : Nat), (∃ k, runI (cfG p) i () l = .inr k ∧ l.any p = true) ∨ (runI (cfG p) i () l = .inl () ∧ l.any p = false)
  | [], i => .inr ⟨rfl, rfl⟩
  | c :: l, i => by
    unfold runI cfG
    cases h : p c with
    | true => exact .inl ⟨i, rfl, by simp [h]⟩
    | false =>
      rcases cf_run p l (i + 1) with ⟨k, h1, h2⟩ | ⟨h1, h2⟩
      · exact .inl ⟨k, h1, by simp [h, h2]⟩
      · exact .inr ⟨h1, by simp [h, h2]⟩
theorem lp_IndexCond {D : Nat} (p : CondV → Bool) (f : Nat) (cs : List A) (hc : PlCaps cs) (conds : List CondV) (hl : conds.length ≤ big) (hf : ∀ c ∈ conds, den pr D f (.agg c.c :: cs) = some [.q (p c)]) :
    Ended (loopN (exec ⟨den pr D, dcl pr D⟩ b_q72_0) [0, 1, 7, 8] rounds ⟨upd (upd (upd (upd (fun _ => .bad) 0 (.lit t_impl_Cond (conds.map CondV.c))) 1 (.fn f cs)) 7 (.n conds.length)) 8 (.n (0 : Nat)), fun _ => none, 0, 0⟩) Unit Nat (runI (cfG p) 0 () conds)
      (fun _ o => ∃ σ', o = .exit 0 σ') (fun i o => ∃ σ', o = .ret σ' ∧ σ'.s 4 = .n i) := by
  refine loop_all conds (fun i (_ : Unit) => ⟨upd (upd (upd (upd (fun _ => .bad) 0 (.lit t_impl_Cond (conds.map CondV.c))) 1 (.fn f cs)) 7 (.n conds.length)) 8 (.n i), fun _ => none, 0, 0⟩) _ (fun _ _ => True) _ _ () trivial hl (fun i _ x K hx hlt hi => ?_) (fun _ K _ => ?_)
  · have hr := map_at (f := CondV.c) hx
    have hw := wrap_nat (n := i) (by unfold big at hl; omega)
    have hp := hf x (List.mem_of_getElem? hx)
    simp only [loopN, e_q72_0, B_q72_0, go_sem, List.length_map, hr, hlt, hw, hc.nm, hc.rn, hc.ac, hc.cl, hc.np, hc.cv, hc.nv, hp, cfG]
    cases p x with
    | true => simp only [go_sem, hc.nm, hc.rn, hc.ac, hc.cl, hc.np, hc.cv, hc.nv]; exact ⟨_, rfl, _, rfl, rfl⟩
    | false => simp only [go_sem, hw, hc.nm, hc.rn, hc.ac, hc.cl, hc.np, hc.cv, hc.nv]
  · have hi : ¬ conds.length < conds.length := by omega
    simp only [loopN, e_q72_0, B_q72_0, go_sem, List.length_map, hi]
    exact ⟨_, rfl, _, rfl⟩
theorem d_Contains_c {D : Nat} (p : CondV → Bool) (f : Nat) (cs : List A) (hc : PlCaps cs) (conds : List CondV) (hl : conds.length ≤ big) (hf : ∀ c ∈ conds, den pr D f (.agg c.c :: cs) = some [.q (p c)]) :
    den pr (D + 2) f_q31 [.lit t_impl_Cond (conds.map CondV.c), .fn f cs] = some [.q (conds.any p)] := by
  rw [u_q31]
  have key : ∃ n : Int, den pr (D + 1) f_q72 [.lit t_impl_Cond (conds.map CondV.c), .fn f cs] = some [.n n] ∧ decide (0 ≤ n) = conds.any p := by
    rw [u_q72]
    obtain ⟨out, lo, lp⟩ := lp_IndexCond p f cs hc conds hl hf
    rw [show ((0 : Nat) : Int) = 0 from rfl] at lo
    rcases cf_run p conds 0 with ⟨k, h1, h2⟩ | ⟨h1, h2⟩
    · rw [h1] at lp
      obtain ⟨σ', rfl, l2⟩ := lp
      refine ⟨k, ?_, by rw [h2]; simp⟩
      simp only [c_q72, go_sem, List.length_map, hc.nm, hc.rn, hc.ac, hc.cl, hc.np, hc.cv, hc.nv, lo, l2]
    · rw [h1] at lp
      obtain ⟨σ', rfl⟩ := lp
      refine ⟨-1, ?_, by rw [h2]; simp⟩
      simp only [c_q72, go_sem, List.length_map, hc.nm, hc.rn, hc.ac, hc.cl, hc.np, hc.cv, hc.nv, lo]
  obtain ⟨n, h1, h2⟩ := key
  rw [← h2]
  simp only [c_q31, go_sem, hc.nm, hc.rn, hc.ac, hc.cl, hc.np, hc.cv, hc.nv, h1]
end Go.Vm.T

/- Rows that are asked for by conditions: the program's. -/
namespace Go.Vm.T
open Go.Proofs
variable [Pr2]
def SmallD (conds : List CondV) : Prop := ∀ c ∈ conds, c.v.t.size ≤ big
theorem fits_at {s : List ColV} {c : CondV} (h : fitsC s c = true) : ∃ i, nmAt c.nm s = some i := by
  unfold fitsC at h
  cases hk : nmAt c.nm s with
  | none => rw [hk] at h; cases h
  | some i => exact ⟨i, rfl⟩
def askIdsG (t : Tab) (conds : List CondV) (_ : Nat) (acc : List Int) (r : RowV) : List Int ⊕ Unit := .inl (if conds.any (fun c => !hasC (shapeT t) (nowV t r) c) = true then acc else acc ++ [r.id])
def idsL (t : Tab) (conds : List CondV) : List Int := (t.rows.filter fun r => !conds.any (fun c => !hasC (shapeT t) (nowV t r) c)).map RowV.id
theorem askIds_run (t : Tab) (conds : List CondV) : ∀ (rs : List RowV) (i : Nat) (acc : List Int), runI (askIdsG t conds) i acc rs = .inl (acc ++ (rs.filter fun r => !conds.any (fun c => !hasC (shapeT t) (nowV t r) c)).map RowV.id)
  | [], i, acc => by simp [runI]
  | r :: rs, i, acc => by
    unfold runI
    have ih := fun a => askIds_run t conds rs (i + 1) a
    rw [show askIdsG t conds i acc r = .inl (if conds.any (fun c => !hasC (shapeT t) (nowV t r) c) = true then acc else acc ++ [r.id]) from rfl]
    simp only
    rw [ih]
    cases h : conds.any (fun c => !hasC (shapeT t) (nowV t r) c) with
    | true => simp [h]
    | false => simp [h]
abbrev aiS (t : Tab) (conds : List CondV) (i : Nat) (acc : List Int) : St := ⟨upd (upd (upd (upd (upd (upd (upd (fun _ => .bad) 1 (.lit t_impl_Cond (conds.map CondV.c))) 2 (.ptr 0 0 0)) 5 (.ptr 1 0 0)) 6 (.ref t_int 2 0 acc.length acc.length false)) 24 (.lit t_impl_Row (t.rows.map RowV.c))) 25 (.n t.rows.length)) 26 (.n i), upd (upd (upd (upd (fun _ => none) 0 (some ⟨t_impl_Table, [t.c], true, true⟩)) 1 (some ⟨t_S_impl_Col, [[.ref t_impl_Col 3 0 (shapeT t).length (shapeT t).length false]], true, true⟩)) 2 (some ⟨t_int, acc.map intC, true, false⟩)) 3 (some ⟨t_impl_Col, (shapeT t).map ColV.c, true, false⟩), 4, 0⟩
theorem lp_AskIds {D : Nat} (hD : 7 ≤ D) (t : Tab) (T : TabOk t) (conds : List CondV) (hl : conds.length ≤ big) (hf : ∀ c ∈ conds, fitsC (shapeT t) c = true) :
    Ended (loopN (exec ⟨den pr D, dcl pr D⟩ b_impl_AskIds_0) [1, 2, 5, 6, 24, 25, 26] rounds (aiS t conds 0 [])) (List Int) Unit (runI (askIdsG t conds) 0 [] t.rows)
      (fun m o => ∃ σ', o = .exit 0 σ' ∧ σ'.n = 4 ∧ σ'.base = 0 ∧ σ'.s 6 = .ref t_int 2 0 m.length m.length false ∧ σ'.h 2 = some ⟨t_int, m.map intC, true, false⟩) (fun _ o => False) := by
  have hsl := (shape_small T.shape).2
  refine loop_all t.rows (aiS t conds) (askIdsG t conds) (fun i acc => acc.length ≤ i) _ _ [] (Nat.le_refl _) T.once.small.rlen (fun i acc r K hc hlt hI => ?_) (fun acc K hI => ?_)
  · have hr := map_at (f := RowV.c) hc
    have hrl := T.once.small.rlen
    have hw := wrap_nat (n := i) (by unfold big at hrl; omega)
    have hn := T.once.rows r (List.mem_of_getElem? hc)
    have e1 := d_now (show 7 ≤ D by omega) t T.once.small r hn
    have hnl := now_len hn
    obtain ⟨D', rfl⟩ : ∃ D', D = D' + 2 := ⟨D - 2, by omega⟩
    have e2 := d_Contains_c (D := D') (fun c => !hasC (shapeT t) (nowV t r) c) f_q35 [.pl [.lit t_impl_Col ((shapeT t).map ColV.c)] 0, .pl [.lit t_impl_Val ((nowV t r).map Val.c)] 0] (plCaps_cons (plCaps_cons plCaps_nil)) conds hl (fun c hcm => by
      obtain ⟨k, hk⟩ := fits_at (hf c hcm)
      exact d_AskIds_2 (by omega) (shapeT t) c (nowV t r) k hk (by omega) (by rw [hnl]; exact nmAt_lt hk))
    unfold askIdsG
    generalize (conds.any fun c => !hasC (shapeT t) (nowV t r) c) = q at *
    generalize nowV t r = row at *
    have hal : acc.length + 1 ≤ big := by omega
    have hat : (acc.map intC).take acc.length = acc.map intC := List.take_of_length_le (by simp)
    have htn : (row.map Val.c).take row.length = row.map Val.c := List.take_of_length_le (by simp)
    have hts : ((shapeT t).map ColV.c).take (shapeT t).length = (shapeT t).map ColV.c := List.take_of_length_le (by simp)
    have em : (acc ++ [r.id]).map intC = acc.map intC ++ [intC r.id] := by simp
    have hax : (acc ++ [r.id]).length = acc.length + 1 := by simp
    cases q with
    | true =>
      simp only [aiS, loopN, e_impl_AskIds_0, B_impl_AskIds_0, go_sem, List.length_map, hr, hlt, hw, e1, e2, htn, hts, rowsSl_val, Nat.le_refl, if_true, if_false]
      omega
    | false =>
      simp only [aiS, loopN, e_impl_AskIds_0, B_impl_AskIds_0, go_sem, List.length_map, hr, hlt, hw, e1, e2, hal, hat, em, hax, htn, hts, rowsSl_val, Nat.le_refl, if_true, if_false]
      omega
  · have hi : ¬ t.rows.length < t.rows.length := by omega
    simp only [aiS, loopN, e_impl_AskIds_0, B_impl_AskIds_0, go_sem, List.length_map, hi]
    exact ⟨_, rfl, _, rfl, rfl, rfl, rfl, rfl⟩
end Go.Vm.T

/- Rows that are asked for by conditions. -/
namespace Go.Vm.T
open Go.Proofs
variable [Pr2]
def askIdsL (t : Tab) (conds : List CondV) : List Int := if tableOk t = true ∧ conds.length ≤ 3 ∧ conds.any (fun c => !fitsC (shapeT t) c) = false then idsL t conds else []
theorem d_AskIds {D : Nat} (hD : 10 ≤ D) (t : Tab) (ht : SmallT t) (conds : List CondV) (hl : conds.length ≤ big) (hs : SmallD conds) :
    den pr D f_impl_AskIds [.agg t.c, .lit t_impl_Cond (conds.map CondV.c)] = some [.olit t_int ((askIdsL t conds).map intC)] := by
  obtain ⟨D, rfl, hd⟩ := pred_of hD
  rw [u_impl_AskIds]
  have e1 := d_TableOk (show 9 ≤ D by omega) t ht
  unfold askIdsL
  have i1 : ((3 : Int) < (conds.length : Int)) = ¬ (conds.length ≤ 3) := by rw [eq_iff_iff]; omega
  cases hok : tableOk t with
  | false =>
    rw [hok] at e1
    rcases pf (conds.length ≤ 3) with h1 | h1 <;> simp only [c_impl_AskIds, go_sem, e1, List.length_map, i1, h1]
  | true =>
    rw [hok] at e1
    have T := tabOk_of ht hok
    have e2 := d_shape (show 7 ≤ D by omega) t ht
    rw [show ((chgs t.first t.chg).getD []) = shapeT t from rfl] at e2
    have hsl := (shape_small T.shape).2
    obtain ⟨D', rfl⟩ : ∃ D', D = D' + 2 := ⟨D - 2, by omega⟩
    have e3 := d_Contains_c (D := D') (fun c => !fitsC (shapeT t) c) f_q32 [.pl [.lit t_impl_Col ((shapeT t).map ColV.c)] 0] (plCaps_cons plCaps_nil) conds hl (fun c hc => d_AskIds_1 (by omega) (shapeT t) c (by omega) (hs c hc))
    have hts : ((shapeT t).map ColV.c).take (shapeT t).length = (shapeT t).map ColV.c := List.take_of_length_le (by simp)
    rcases pf (conds.length ≤ 3) with h1 | h1
    · cases hq : conds.any (fun c => !fitsC (shapeT t) c) with
      | true =>
        rw [hq] at e3
        simp only [c_impl_AskIds, go_sem, e1, e2, e3, List.length_map, i1, h1, hts, rowsSl_col, Nat.le_refl, if_true]
      | false =>
        rw [hq] at e3
        have hf : ∀ c ∈ conds, fitsC (shapeT t) c = true := by
          intro c hc
          have := List.any_eq_false.1 hq c hc
          simpa using this
        obtain ⟨out, lo, lp⟩ := lp_AskIds (D := D' + 2) (by omega) t T conds hl hf
        rw [askIds_run] at lp
        obtain ⟨σ', rfl, l1, l2, l3, l4⟩ := lp
        rw [List.nil_append] at l3 l4
        rw [show ((t.rows.filter fun r => !conds.any (fun c => !hasC (shapeT t) (nowV t r) c)).map RowV.id) = idsL t conds from rfl] at l3 l4
        simp only [aiS, List.length_nil, List.map_nil] at lo
        rw [show ((0 : Nat) : Int) = 0 from rfl] at lo
        have hmt : ((idsL t conds).map intC).take (idsL t conds).length = (idsL t conds).map intC := List.take_of_length_le (by simp)
        have hll : ((idsL t conds).map intC).length = (idsL t conds).length := by simp
        generalize idsL t conds = m at *
        simp only [c_impl_AskIds, go_sem, e1, e2, e3, List.length_map, i1, h1, hts, rowsSl_col, lo, l1, l2, l3, l4, hmt, hll, v_q37, c_q37, Nat.le_refl, Nat.zero_le, Nat.sub_zero, Option.isSome_some, if_true]
    · simp only [c_impl_AskIds, go_sem, e1, List.length_map, i1, h1]
end Go.Vm.T

/- Rows that are asked for by conditions: the reference's. -/
namespace Go.Vm.T
open Go.Proofs
def cdG (s : List ColV) (_ : Nat) (_ : Unit) (c : CondV) : Unit ⊕ Unit := bif condOk s c then .inl () else .inr ()
theorem cd_run [Pr2] (s : List ColV) : ∀ (l : List CondV) (i : Nat), (runI (cdG s) i () l = .inl () ∧ l.any (fun c => !condOk s c) = false) ∨ (runI (cdG s) i () l = .inr () ∧ l.any (fun c => !condOk s c) = true)
  | [], i => .inl ⟨rfl, rfl⟩
  | c :: l, i => by
    unfold runI cdG
    cases h : condOk s c with
    | false => exact .inr ⟨rfl, by simp [h]⟩
    | true =>
      rcases cd_run s l (i + 1) with ⟨h1, h2⟩ | ⟨h1, h2⟩
      · exact .inl ⟨h1, by simp [h, h2]⟩
      · exact .inr ⟨h1, by simp [h, h2]⟩
def hsG (s : List ColV) (row : List Val) (_ : Nat) (b : Bool) (c : CondV) : Bool ⊕ Unit := .inl (b && hasC s row c)
theorem hs_run (s : List ColV) (row : List Val) : ∀ (l : List CondV) (i : Nat) (b : Bool), runI (hsG s row) i b l = .inl (b && !l.any (fun c => !hasC s row c))
  | [], i, b => by simp [runI]
  | c :: l, i, b => by
    unfold runI
    rw [show hsG s row i b c = .inl (b && hasC s row c) from rfl]
    simp only
    rw [hs_run s row l (i + 1)]
    cases b <;> cases h : hasC s row c <;> simp [h]
variable [Pr2]
theorem lp_l7Conds {D : Nat} (hD : 5 ≤ D) (s : List ColV) (hs : SmallC s) (conds : List CondV) (hl : conds.length ≤ big) (hd : SmallD conds) :
    Ended (loopN (exec ⟨den pr D, dcl pr D⟩ b_spec_l7Conds_0) [0, 1, 5] rounds ⟨upd (upd (upd (fun _ => .bad) 0 (.lit t_impl_Col (s.map ColV.c))) 1 (.lit t_impl_Cond (conds.map CondV.c))) 5 (.n (0 : Nat)), fun _ => none, 0, 0⟩) Unit Unit (runI (cdG s) 0 () conds)
      (fun _ o => ∃ σ', o = .exit 0 σ' ∧ σ'.s 1 = .lit t_impl_Cond (conds.map CondV.c)) (fun _ o => ∃ σ', o = .ret σ' ∧ σ'.s 4 = .q false) := by
  refine loop_all conds (fun i _ => ⟨upd (upd (upd (fun _ => .bad) 0 (.lit t_impl_Col (s.map ColV.c))) 1 (.lit t_impl_Cond (conds.map CondV.c))) 5 (.n i), fun _ => none, 0, 0⟩) (cdG s) (fun _ _ => True) _ _ () trivial hl (fun i _ c K hc hlt _ => ?_) (fun _ K _ => ?_)
  · have hx := map_at (f := CondV.c) hc
    have hw := wrap_nat (n := i) (by unfold big at hl; omega)
    have e1 := d_spec_CondOk hD s c hs (hd c (List.mem_of_getElem? hc))
    unfold cdG
    cases h : condOk s c with
    | true =>
      rw [h] at e1
      simp only [loopN, e_spec_l7Conds_0, B_spec_l7Conds_0, go_sem, List.length_map, hx, hlt, hw, e1]
    | false =>
      rw [h] at e1
      simp only [loopN, e_spec_l7Conds_0, B_spec_l7Conds_0, go_sem, List.length_map, hx, hlt, hw, e1]
      exact ⟨_, rfl, _, rfl, rfl⟩
  · have hi : ¬ conds.length < conds.length := by omega
    simp only [loopN, e_spec_l7Conds_0, B_spec_l7Conds_0, go_sem, List.length_map, hi]
    exact ⟨_, rfl, _, rfl, rfl⟩
theorem d_l7Conds {D : Nat} (hD : 6 ≤ D) (s : List ColV) (hs : SmallC s) (conds : List CondV) (hl : conds.length ≤ big) (hd : SmallD conds) :
    den pr D f_spec_l7Conds [.lit t_impl_Col (s.map ColV.c), .lit t_impl_Cond (conds.map CondV.c)] = some [.q (!conds.any (fun c => !condOk s c) && decide (conds.length ≤ 3))] := by
  obtain ⟨D, rfl, hd'⟩ := pred_of hD
  rw [u_spec_l7Conds]
  obtain ⟨out, lo, lp⟩ := lp_l7Conds hd' s hs conds hl hd
  rw [show ((0 : Nat) : Int) = 0 from rfl] at lo
  have i1 : ((conds.length : Int) ≤ 3) = (conds.length ≤ 3) := by rw [eq_iff_iff]; omega
  rcases cd_run s conds 0 with ⟨h1, h2⟩ | ⟨h1, h2⟩
  · rw [h1] at lp
    obtain ⟨σ', rfl, l1⟩ := lp
    rw [h2]
    rcases pf (conds.length ≤ 3) with p | p <;> simp only [c_spec_l7Conds, go_sem, List.length_map, lo, l1, i1, p]
  · rw [h1] at lp
    obtain ⟨σ', rfl, l1⟩ := lp
    rw [h2]
    simp only [c_spec_l7Conds, go_sem, List.length_map, lo, l1]
abbrev siS0 (t : Tab) (conds : List CondV) (i : Nat) (acc : List Int) (ex : Bool) (row : List Val) (k : Nat) (b : Bool) : St := ⟨upd (upd (upd (upd (upd (upd (upd (upd (fun _ => .bad) 1 (.lit t_impl_Cond (conds.map CondV.c))) 2 (.ptr 0 0 0)) 5 (.ref t_int 1 0 acc.length acc.length ex)) 6 (.ref t_impl_Col 2 0 (shapeT t).length (shapeT t).length false)) 7 (.n i)) 8 (.ref t_impl_Val 3 0 row.length row.length false)) 9 (.q b)) 10 (.n k), upd (upd (upd (upd (fun _ => none) 0 (some ⟨t_impl_Table, [t.c], true, true⟩)) 1 (some ⟨t_int, acc.map intC, true, false⟩)) 2 (some ⟨t_impl_Col, (shapeT t).map ColV.c, true, false⟩)) 3 (some ⟨t_impl_Val, row.map Val.c, true, false⟩), 4, 0⟩
theorem lp_sAskIds0 {D : Nat} (hD : 2 ≤ D) (t : Tab) (conds : List CondV) (i : Nat) (acc : List Int) (ex : Bool) (row : List Val) (hl : conds.length ≤ big) (hsl : (shapeT t).length ≤ big) (hrl : row.length = (shapeT t).length) (hf : ∀ c ∈ conds, ∃ k, nmAt c.nm (shapeT t) = some k) :
    Ended (loopN (exec ⟨den pr D, dcl pr D⟩ b_spec_AskIds_0) [1, 2, 5, 6, 7, 8, 9, 10] rounds (siS0 t conds i acc ex row 0 true)) Bool Unit (runI (hsG (shapeT t) row) 0 true conds)
      (fun b o => ∃ σ', o = .exit 2 σ' ∧ σ'.n = 4 ∧ σ'.base = 0 ∧ σ'.s 1 = .lit t_impl_Cond (conds.map CondV.c) ∧ σ'.s 2 = .ptr 0 0 0 ∧ σ'.s 5 = .ref t_int 1 0 acc.length acc.length ex ∧ σ'.s 6 = .ref t_impl_Col 2 0 (shapeT t).length (shapeT t).length false ∧ σ'.s 7 = .n i ∧ σ'.s 9 = .q b ∧ σ'.h = upd (upd (upd (upd (fun _ => none) 0 (some ⟨t_impl_Table, [t.c], true, true⟩)) 1 (some ⟨t_int, acc.map intC, true, false⟩)) 2 (some ⟨t_impl_Col, (shapeT t).map ColV.c, true, false⟩)) 3 (some ⟨t_impl_Val, row.map Val.c, true, false⟩)) (fun _ o => False) := by
  refine loop_all conds (fun k b => siS0 t conds i acc ex row k b) (hsG (shapeT t) row) (fun _ _ => True) _ _ true trivial hl (fun k b c K hc hlt _ => ?_) (fun b K _ => ?_)
  · have hx := map_at (f := CondV.c) hc
    have hw := wrap_nat (n := k) (by unfold big at hl; omega)
    obtain ⟨j, hj⟩ := hf c (List.mem_of_getElem? hc)
    have hjl := nmAt_lt hj
    have e1 := d_l2At (show 1 ≤ D by omega) c.nm (shapeT t) hsl
    unfold nmI at e1
    rw [hj] at e1
    simp only at e1
    have hrow : j < row.length := by omega
    have hv := map_at (f := Val.c) (getD_at hrow)
    have e2 := d_l7Has hD c (row.getD j zV)
    have hh : hasC (shapeT t) row c = hasB c (row.getD j zV) := by unfold hasC; rw [hj]
    unfold hsG
    rw [hh]
    generalize row.getD j zV = v at *
    have j0 : (0 : Int) ≤ (j : Int) := by omega
    have jt : ((j : Int)).toNat = j := by omega
    have hts : ((shapeT t).map ColV.c).take (shapeT t).length = (shapeT t).map ColV.c := List.take_of_length_le (by simp)
    cases b with
    | true =>
      cases hb : hasB c v <;> rw [hb] at e2 <;> simp only [siS0, loopN, e_spec_AskIds_0, B_spec_AskIds_0, go_sem, List.length_map, hx, hlt, hw, e1, e2, hv, hrow, j0, jt, hts, rowsSl_col, Nat.le_refl, if_true]
    | false => simp only [siS0, loopN, e_spec_AskIds_0, B_spec_AskIds_0, go_sem, List.length_map, hx, hlt, hw, e1, e2, hv, hrow, j0, jt, hts, rowsSl_col, Nat.le_refl, if_true]
  · have hi : ¬ conds.length < conds.length := by omega
    simp only [siS0, loopN, e_spec_AskIds_0, B_spec_AskIds_0, go_sem, List.length_map, hi]
    exact ⟨_, rfl, _, rfl, rfl, rfl, rfl, rfl, rfl, rfl, rfl, rfl, rfl⟩
end Go.Vm.T

/- Rows that are asked for by conditions: the reference's, whole. -/
namespace Go.Vm.T
open Go.Proofs
variable [Pr2]
abbrev siS (t : Tab) (conds : List CondV) (i : Nat) (acc : List Int) : St := ⟨upd (upd (upd (upd (upd (fun _ => .bad) 1 (.lit t_impl_Cond (conds.map CondV.c))) 2 (.ptr 0 0 0)) 5 (.ref t_int 1 0 acc.length acc.length (decide (acc.length = 0)))) 6 (.ref t_impl_Col 2 0 (shapeT t).length (shapeT t).length false)) 7 (.n i), upd (upd (upd (fun _ => none) 0 (some ⟨t_impl_Table, [t.c], true, true⟩)) 1 (some ⟨t_int, acc.map intC, true, false⟩)) 2 (some ⟨t_impl_Col, (shapeT t).map ColV.c, true, false⟩), 3, 0⟩
theorem lp_sAskIds {D : Nat} (hD : 9 ≤ D) (t : Tab) (T : TabOk t) (conds : List CondV) (hl : conds.length ≤ big) (hf : ∀ c ∈ conds, ∃ k, nmAt c.nm (shapeT t) = some k) :
    Ended (loopN (exec ⟨den pr D, dcl pr D⟩ b_spec_AskIds_1) [1, 2, 5, 6, 7] rounds (siS t conds 0 [])) (List Int) Unit (runI (askIdsG t conds) 0 [] t.rows)
      (fun m o => ∃ σ' ex, o = .exit 0 σ' ∧ σ'.n = 3 ∧ σ'.base = 0 ∧ σ'.s 5 = .ref t_int 1 0 m.length m.length ex ∧ σ'.h 1 = some ⟨t_int, m.map intC, true, false⟩) (fun _ o => False) := by
  have hsl := (shape_small T.shape).2
  refine loop_all t.rows (siS t conds) (askIdsG t conds) (fun i acc => acc.length ≤ i) _ _ [] (Nat.le_refl _) T.once.small.rlen (fun i acc r K hc hlt hI => ?_) (fun acc K hI => ?_)
  · have hr := map_at (f := RowV.c) hc
    have hrl := T.once.small.rlen
    have hw := wrap_nat (n := i) (by unfold big at hrl; omega)
    have hn := T.once.rows r (List.mem_of_getElem? hc)
    have e1 := d_l3Now hD t T.once.small T.sh r hn
    have hnl := now_len hn
    obtain ⟨out, lo, lp⟩ := lp_sAskIds0 (D := D) (by omega) t conds i acc (decide (acc.length = 0)) (nowV t r) hl (by omega) hnl hf
    rw [hs_run, Bool.true_and] at lp
    obtain ⟨σ', rfl, m1, m2, l1, l2, l5, l6, l7, l9, lh⟩ := lp
    simp only [siS0] at lo
    rw [show ((0 : Nat) : Int) = 0 from rfl] at lo
    unfold askIdsG
    generalize (conds.any fun c => !hasC (shapeT t) (nowV t r) c) = q at *
    generalize nowV t r = row at *
    have hal : acc.length + 1 ≤ big := by omega
    have hat : (acc.map intC).take acc.length = acc.map intC := List.take_of_length_le (by simp)
    have htn : (row.map Val.c).take row.length = row.map Val.c := List.take_of_length_le (by simp)
    have hts : ((shapeT t).map ColV.c).take (shapeT t).length = (shapeT t).map ColV.c := List.take_of_length_le (by simp)
    have em : (acc ++ [r.id]).map intC = acc.map intC ++ [intC r.id] := by simp
    have hax : (acc ++ [r.id]).length = acc.length + 1 := by simp
    have hz : decide (acc.length + 1 = 0) = false := by simp
    cases q with
    | true =>
      rw [show (!true) = false from rfl] at l9
      simp only [siS, loopN, e_spec_AskIds_1, B_spec_AskIds_1, go_sem, List.length_map, hr, hlt, hw, e1, htn, rowsSl_val, lo, m1, m2, l1, l2, l5, l6, l7, l9, lh, Nat.le_refl, if_true, if_false]
      omega
    | false =>
      rw [show (!false) = true from rfl] at l9
      simp only [siS, loopN, e_spec_AskIds_1, B_spec_AskIds_1, go_sem, List.length_map, hr, hlt, hw, e1, htn, rowsSl_val, lo, m1, m2, l1, l2, l5, l6, l7, l9, lh, hal, hat, em, hax, hz, Nat.le_refl, if_true, if_false]
      omega
  · have hi : ¬ t.rows.length < t.rows.length := by omega
    simp only [siS, loopN, e_spec_AskIds_1, B_spec_AskIds_1, go_sem, List.length_map, hi]
    exact ⟨_, rfl, _, _, rfl, rfl, rfl, rfl, rfl⟩
end Go.Vm.T

/- Rows that are asked for by conditions: the reference answers as the program. -/
namespace Go.Vm.T
open Go.Proofs
variable [Pr2]
def g18 : List G := [.g 15 false (.mv 18 (.t 1)), .g 15 false (.call (some 19) 1 0 f_spec_l7Conds [(.t 17), (.t 18)]), .g 15 false (.un 20 .not (.t 19)), .o (.pick 21 (.t 15) (.k (.v (.bool true))) (.t 20))]
def tl18 (E : Env) (σ : St) (o : Option A) : Nat → A := match bnd (underS false σ (some 17) o none) (steps E 1 g18) with | some τ => τ.s | none => σ.s
theorem tail18' (E : Env) (σ : St) (o : Option A) (k : Option St) (h : σ.s 15 = .q true) : bnd (underS false σ (some 17) o k) (steps E 1 [.g 15 false (.mv 18 (.t 1)), .g 15 false (.call (some 19) 1 0 f_spec_l7Conds [(.t 17), (.t 18)]), .g 15 false (.un 20 .not (.t 19)), .o (.pick 21 (.t 15) (.k (.v (.bool true))) (.t 20))]) = some ⟨upd (tl18 E σ o) 21 (.q true), σ.h, σ.n, σ.base⟩ ∧ tl18 E σ o 5 = σ.s 5 := by
  have key : ∃ f, bnd (underS false σ (some 17) o none) (steps E 1 g18) = some ⟨upd f 21 (.q true), σ.h, σ.n, σ.base⟩ ∧ f 5 = σ.s 5 := by
    rw [underS_jk]
    obtain ⟨s, hp, n, b⟩ := σ
    simp only at h
    simp only [g18, go_sem, h, underS_jk, underV_jk, bq2]
    first
      | exact ⟨_, rfl, rfl⟩
      | (rw [bq]; exact ⟨_, rfl, rfl⟩)
  obtain ⟨f, hf, hf5⟩ := key
  have : tl18 E σ o = upd f 21 (.q true) := by unfold tl18; rw [hf]
  refine ⟨?_, by rw [this]; exact hf5⟩
  rw [this, underS_jk, ← underS_jk _ _ _ none]
  rw [show upd (upd f 21 (.q true)) 21 (.q true) = upd f 21 (.q true) from by funext i; simp only [upd_apply]; split <;> rfl]
  exact hf
theorem tail18 (E : Env) (σ : St) (o : Option A) (k : Option St) (h : σ.s 15 = .q true) : bnd (underS false σ (some 17) o k) (steps E 1 [.g 15 false (.mv 18 (.t 1)), .g 15 false (.call (some 19) 1 0 f_spec_l7Conds [(.t 17), (.t 18)]), .g 15 false (.un 20 .not (.t 19)), .o (.pick 21 (.t 15) (.k (.v (.bool true))) (.t 20))]) = some ⟨upd (tl18 E σ o) 21 (.q true), σ.h, σ.n, σ.base⟩ := (tail18' E σ o k h).1
theorem tl18_5 (E : Env) (σ : St) (o : Option A) (h : σ.s 15 = .q true) : tl18 E σ o 5 = σ.s 5 := (tail18' E σ o none h).2
theorem d_spec_AskIds {D : Nat} (hD : 12 ≤ D) (t : Tab) (ht : SmallT t) (conds : List CondV) (hl : conds.length ≤ big) (hs : SmallD conds) :
    den pr D f_spec_AskIds [.agg t.c, .lit t_impl_Cond (conds.map CondV.c)] = some [.olit t_int ((askIdsL t conds).map intC)] := by
  obtain ⟨D, rfl, hd⟩ := pred_of hD
  rw [u_spec_AskIds]
  have e1 := d_spec_TableOk (show 11 ≤ D by omega) t ht
  unfold askIdsL
  cases hok : tableOk t with
  | false =>
    rw [hok] at e1
    rw [if_neg (by simp)]
    simp only [c_spec_AskIds, go_sem, e1, List.length_map, tail18, tl18_5, Nat.le_refl]
  | true =>
    rw [hok] at e1
    have T := tabOk_of ht hok
    have e2 := d_l3Last (show 9 ≤ D by omega) t ht T.sh
    have hsl := shape_small T.shape
    have e3 := d_l7Conds (show 6 ≤ D by omega) (shapeT t) hsl.1 conds hl hs
    have hco : (conds.any fun c => !condOk (shapeT t) c) = (conds.any fun c => !fitsC (shapeT t) c) := by
      congr 1
      funext c
      unfold condOk
      rw [T.shape, Bool.true_and]
    rw [hco] at e3
    have hts : ((shapeT t).map ColV.c).take (shapeT t).length = (shapeT t).map ColV.c := List.take_of_length_le (by simp)
    by_cases hq : conds.length ≤ 3 ∧ (conds.any fun c => !fitsC (shapeT t) c) = false
    · obtain ⟨q1, q2⟩ := hq
      rw [q2, show decide (conds.length ≤ 3) = true by simp [q1]] at e3
      have hf : ∀ c ∈ conds, ∃ k, nmAt c.nm (shapeT t) = some k := by
        intro c hc
        have := List.any_eq_false.1 q2 c hc
        exact fits_at (by simpa using this)
      obtain ⟨out, lo, lp⟩ := lp_sAskIds (show 9 ≤ D by omega) t T conds hl hf
      rw [askIds_run] at lp
      obtain ⟨σ', ex, rfl, l1, l2, l3, l4⟩ := lp
      rw [List.nil_append] at l3 l4
      rw [show ((t.rows.filter fun r => !conds.any (fun c => !hasC (shapeT t) (nowV t r) c)).map RowV.id) = idsL t conds from rfl] at l3 l4
      simp only [siS, List.length_nil, List.map_nil, decide_true] at lo
      rw [show ((0 : Nat) : Int) = 0 from rfl] at lo
      have hmt : ((idsL t conds).map intC).take (idsL t conds).length = (idsL t conds).map intC := List.take_of_length_le (by simp)
      have hll : ((idsL t conds).map intC).length = (idsL t conds).length := by simp
      rw [if_pos ⟨rfl, q1, q2⟩]
      generalize idsL t conds = m at *
      simp only [c_spec_AskIds, go_sem, e1, e2, e3, List.length_map, hts, rowsSl_col, lo, l1, l2, l3, l4, hmt, hll, Nat.le_refl, if_true]
    · rw [if_neg (by intro h; exact hq ⟨h.2.1, h.2.2⟩)]
      have hb : (!(conds.any fun c => !fitsC (shapeT t) c) && decide (conds.length ≤ 3)) = false := by
        cases h1 : (conds.any fun c => !fitsC (shapeT t) c) with
        | true => rfl
        | false =>
          have : ¬ conds.length ≤ 3 := fun h => hq ⟨h, h1⟩
          simp [this]
      rw [hb] at e3
      simp only [c_spec_AskIds, go_sem, e1, e2, e3, List.length_map, hts, rowsSl_col, Nat.le_refl, if_true]
end Go.Vm.T
end
