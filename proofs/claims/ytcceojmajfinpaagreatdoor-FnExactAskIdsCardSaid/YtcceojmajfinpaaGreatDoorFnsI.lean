/-
  Sizes, copies, equalities; the law in the abstract machine
-/
import Derived.Test.YtcceojmajfinpaaGreatDoorFnsH
import Derived.Test.YtcceojmajfinpaaGreatDoorVmD
import Derived.Test.YtcceojmajfinpaaGreatDoorVmB
section
set_option linter.unusedVariables false
set_option linter.unusedSectionVars false
set_option linter.unusedSimpArgs false
/- Sizes, copies, equalities of values, changes, rows, tables. -/
namespace Go.Vm.T
open Go.Proofs
abbrev valW : Val → Nat := fun v => v.t.size
abbrev chgW : Chg → Nat := fun c => c.nm.size + (c.nw.size + colW c.col)
abbrev rowW : RowV → Nat := fun r => r.vals.length + (r.vals.map valW).sum
abbrev rowL (r : RowV) : List A := [.n r.id, .n r.ver, .lit t_laws_Val (r.vals.map Val.c)]
abbrev tabL (t : Tab) : List A := [.lit t_laws_Col (t.first.map ColV.c), .lit t_laws_Change (t.chg.map Chg.c), .lit t_laws_Row (t.rows.map rowL), .n t.next]
abbrev zChg : List A := [.n 0, .s ⟨#[]⟩, .s ⟨#[]⟩, .s ⟨#[]⟩, .n 0, .q false, .q false, .n 0, .n 0, .s ⟨#[]⟩]
abbrev zRow : List A := [.n 0, .n 0, .lit t_impl_Val []]
abbrev szV (v : Val) : Prop := v.t.size ≤ maxLen
abbrev szC (c : ColV) : Prop := c.nm.size ≤ maxLen ∧ c.df.t.size ≤ maxLen
abbrev szG (c : Chg) : Prop := c.nm.size ≤ maxLen ∧ c.nw.size ≤ maxLen ∧ szC c.col
abbrev szR (r : RowV) : Prop := r.vals.length ≤ maxLen ∧ ∀ v ∈ r.vals, szV v
variable [Pr2]
theorem dec_add {l : Int} (a b : Nat) (h : ¬ dec l a < 0) : dec (dec l a) b = dec l (a + b) := dec_dec a b h
theorem szRun_dec {α : Type} (w : α → Nat) : ∀ (es : List α) (l : Int), 0 ≤ l → (szRun w l es).getD (-1) = dec l (es.map w).sum
  | [], l, h => by unfold dec szRun; simp; omega
  | e :: es, l, h => by
    unfold szRun
    rw [List.map_cons, List.sum_cons]
    by_cases hn : dec l (w e) < 0
    · rw [if_pos hn, dec_lt _ _ hn]; rfl
    · rw [if_neg hn, szRun_dec w es _ (by omega), dec_add _ _ hn]
theorem szList_dec {α : Type} (w : α → Nat) (es : List α) (l : Int) (h : 0 ≤ l) : szList w l es = dec l (es.length + (es.map w).sum) := by
  unfold szList
  by_cases hn : l - (es.length : Int) < 0
  · rw [if_pos hn, dec_lt _ _ (by unfold dec; rw [if_pos hn]; decide)]
  · rw [if_neg hn, szRun_dec w es _ (by omega)]
    have hx : dec l es.length = l - es.length := by unfold dec; rw [if_neg hn]
    rw [← hx]
    exact dec_add _ _ (by rw [hx]; exact hn)
theorem lp_szValS {D : Nat} (hD : 1 ≤ D) (es : List Val) (l : Int) (h0 : 0 ≤ l) (h1 : l ≤ cap) (hl : es.length ≤ big) (hs : ∀ e ∈ es, szV e) :
    Ended (loopN (exec ⟨den pr D, dcl pr D⟩ b_laws_szValS_0) [0, 1, 5] rounds ⟨upd (upd (upd (fun _ => .bad) 0 (.lit t_laws_Val (es.map Val.c))) 1 (.n l)) 5 (.n (0 : Nat)), fun _ => none, 0, 0⟩) Int Unit (runI (szGo valW) 0 l es)
      (fun m o => ∃ σ', o = .exit 0 σ' ∧ σ'.s 1 = .n m) (fun _ o => ∃ σ', o = .ret σ' ∧ σ'.s 4 = .n (-1)) := by
  refine loop_all es (fun i (m : Int) => ⟨upd (upd (upd (fun _ => .bad) 0 (.lit t_laws_Val (es.map Val.c))) 1 (.n m)) 5 (.n i), fun _ => none, 0, 0⟩) _ (fun _ m => 0 ≤ m ∧ m ≤ cap) _ _ l ⟨h0, h1⟩ hl (fun i m e K hc hlt hi => ?_) (fun m K _ => ?_)
  · have hr := map_at (f := Val.c) hc
    have hw := wrap_nat (n := i) (by unfold big at hl; omega)
    have hm := d_szVal hD e m hi.1 hi.2 (hs e (List.mem_of_getElem? hc))
    simp only [loopN, e_laws_szValS_0, B_laws_szValS_0, go_sem, List.length_map, hr, hlt, hw, hm, szGo]
    by_cases h : dec m (valW e) < 0
    · simp only [h, go_sem]; exact ⟨_, rfl, _, rfl, rfl⟩
    · obtain ⟨h4, h5⟩ := dec_ok h
      simp only [h, go_sem]
      exact ⟨by omega, by omega⟩
  · have hi : ¬ es.length < es.length := by omega
    simp only [loopN, e_laws_szValS_0, B_laws_szValS_0, go_sem, List.length_map, hi]
    exact ⟨_, rfl, _, rfl, rfl⟩
theorem d_szValS {D : Nat} (hD : 2 ≤ D) (es : List Val) (l : Int) (h0 : 0 ≤ l) (h1 : l ≤ cap) (hl : es.length ≤ maxLen) (hs : ∀ e ∈ es, szV e) :
    den pr D f_laws_szValS [.lit t_laws_Val (es.map Val.c), .n l] = some [.n (szList valW l es)] := by
  obtain ⟨D, rfl, hd⟩ := pred_of hD
  rw [u_laws_szValS]
  have hw : IntKind.i64.wrap (l - (es.length : Int)) = l - es.length := wrap_i64 (by unfold maxLen at hl; omega) (by unfold cap at h1; omega)
  simp only [c_laws_szValS, go_sem, List.length_map, hw, szList]
  by_cases h : l - (es.length : Int) < 0
  · simp only [h, go_sem]
  · have hb : es.length ≤ big := by unfold cap at h1; unfold big; omega
    obtain ⟨out, lo, lp⟩ := lp_szValS hd es (l - es.length) (by omega) (by omega) hb hs
    rw [show ((0 : Nat) : Int) = 0 from rfl] at lo
    rw [szRun_run] at lp
    cases hq : szRun valW (l - es.length) es with
    | some m =>
      rw [hq] at lp
      obtain ⟨σ', rfl, l2⟩ := lp
      simp only [h, go_sem, lo, l2, Option.getD_some]
    | none =>
      rw [hq] at lp
      obtain ⟨σ', rfl, l2⟩ := lp
      simp only [h, go_sem, lo, l2, Option.getD_none]
theorem lp_toValS {D : Nat} (hD : 1 ≤ D) (es : List Val) (hl : es.length ≤ big) (hs : ∀ e ∈ es, szV e) :
    Ended (loopN (exec ⟨den pr D, dcl pr D⟩ b_laws_toValS_0) [0, 3, 4] rounds ⟨upd (upd (upd (fun _ => .bad) 0 (.lit t_laws_Val (es.map Val.c))) 3 (.ref t_impl_Val 0 0 es.length es.length true)) 4 (.n (0 : Nat)), upd (fun _ => none) 0 (some ⟨t_impl_Val, frow zVal (es.map Val.c) 0, true, false⟩), 1, 0⟩) Unit Unit (runI (fun _ _ _ => .inl ()) 0 () es)
      (fun m o => ∃ σ', o = .exit 0 σ' ∧ σ'.s 3 = .ref t_impl_Val 0 0 es.length es.length true ∧ σ'.h 0 = some ⟨t_impl_Val, es.map Val.c, true, false⟩) (fun _ o => False) := by
  refine loop_all es (fun i (_ : Unit) => ⟨upd (upd (upd (fun _ => .bad) 0 (.lit t_laws_Val (es.map Val.c))) 3 (.ref t_impl_Val 0 0 es.length es.length true)) 4 (.n i), upd (fun _ => none) 0 (some ⟨t_impl_Val, frow zVal (es.map Val.c) i, true, false⟩), 1, 0⟩) _ (fun _ _ => True) _ _ () trivial hl (fun i m e K hc hlt hi => ?_) (fun m K _ => ?_)
  · have hr := map_at (f := Val.c) hc
    have hr' := map_at (f := Val.c) hc
    have hw := wrap_nat (n := i) (by unfold big at hl; omega)
    have hm := d_toVal hD e
    have hf : (frow zVal (es.map Val.c) i)[i]? = some zVal := frow_at (by simpa using hlt)
    have hs := frow_set (z := zVal) hr'
    have hlen : (frow zVal (es.map Val.c) i).length = es.length := by rw [frow_length (by simp; omega)]; simp
    simp only [loopN, e_laws_toValS_0, B_laws_toValS_0, go_sem, List.length_map, hr, hlt, hw, hm, hf, hs, hlen]
  · have hi : ¬ es.length < es.length := by omega
    have ha := frow_all zVal (es.map Val.c)
    rw [List.length_map] at ha
    simp only [loopN, e_laws_toValS_0, B_laws_toValS_0, go_sem, List.length_map, hi, ha]
    exact ⟨_, rfl, _, rfl, rfl, rfl⟩
theorem d_toValS {D : Nat} (hD : 2 ≤ D) (es : List Val) (hl : es.length ≤ big) (hs : ∀ e ∈ es, szV e) : den pr D f_laws_toValS [.lit t_laws_Val (es.map Val.c)] = some [.olit t_impl_Val (es.map Val.c)] := by
  obtain ⟨D, rfl, hd⟩ := pred_of hD
  rw [u_laws_toValS]
  obtain ⟨out, lo, lp⟩ := lp_toValS hd es hl hs
  rw [run_unit] at lp
  obtain ⟨σ', rfl, l2, l3⟩ := lp
  rw [show ((0 : Nat) : Int) = 0 from rfl, frow_zero, List.length_map] at lo
  simp only [c_laws_toValS, go_sem, List.length_map, hl, lo, l2, l3]
theorem lp_eqValS {D : Nat} (hD : 1 ≤ D) (es : List Val) (hl : es.length ≤ big) (hs : ∀ e ∈ es, szV e) :
    Ended (loopN (exec ⟨den pr D, dcl pr D⟩ b_laws_eqValS_0) [0, 1, 5] rounds ⟨upd (upd (upd (fun _ => .bad) 0 (.lit t_impl_Val (es.map Val.c))) 1 (.lit t_impl_Val (es.map Val.c))) 5 (.n (0 : Nat)), fun _ => none, 0, 0⟩) Unit Unit (runI (fun _ _ _ => .inl ()) 0 () es)
      (fun m o => ∃ σ', o = .exit 0 σ') (fun _ o => False) := by
  refine loop_all es (fun i (_ : Unit) => ⟨upd (upd (upd (fun _ => .bad) 0 (.lit t_impl_Val (es.map Val.c))) 1 (.lit t_impl_Val (es.map Val.c))) 5 (.n i), fun _ => none, 0, 0⟩) _ (fun _ _ => True) _ _ () trivial hl (fun i m e K hc hlt hi => ?_) (fun m K _ => ?_)
  · have hr := map_at (f := Val.c) hc
    have hw := wrap_nat (n := i) (by unfold big at hl; omega)
    have hm := d_eqVal hD e
    simp only [loopN, e_laws_eqValS_0, B_laws_eqValS_0, go_sem, List.length_map, hr, hlt, hw, hm]
  · have hi : ¬ es.length < es.length := by omega
    simp only [loopN, e_laws_eqValS_0, B_laws_eqValS_0, go_sem, List.length_map, hi]
    exact ⟨_, rfl, _, rfl⟩
theorem d_eqValS {D : Nat} (hD : 2 ≤ D) (es : List Val) (hl : es.length ≤ big) (hs : ∀ e ∈ es, szV e) : den pr D f_laws_eqValS [.lit t_impl_Val (es.map Val.c), .lit t_impl_Val (es.map Val.c)] = some [.q true] := by
  obtain ⟨D, rfl, hd⟩ := pred_of hD
  rw [u_laws_eqValS]
  obtain ⟨out, lo, lp⟩ := lp_eqValS hd es hl hs
  rw [run_unit] at lp
  obtain ⟨σ', rfl⟩ := lp
  rw [show ((0 : Nat) : Int) = 0 from rfl] at lo
  simp only [c_laws_eqValS, go_sem, List.length_map, lo]
theorem d_szChange {D : Nat} (hD : 3 ≤ D) (e : Chg) (l : Int) (h0 : 0 ≤ l) (h1 : l ≤ cap) (hv : szG e) : den pr D f_q57 [.agg e.c, .n l] = some [.n (dec l (chgW e))] := by
  obtain ⟨D, rfl, hd⟩ := pred_of hD
  rw [u_q57]
  have hw : IntKind.i64.wrap (l - (e.nm.size : Int)) = l - e.nm.size := wrap_i64 (by have := hv.1; unfold maxLen at this; omega) (by unfold cap at h1; omega)
  have m1 : (-1 : Int) < 0 := by decide
  by_cases h : l - (e.nm.size : Int) < 0
  · have h2 : dec l (chgW e) = -1 := dec_lt _ _ (by unfold dec; rw [if_pos h]; decide)
    simp only [c_q57, go_sem, hw, h, h2]
  · have hx : dec l e.nm.size = l - e.nm.size := by unfold dec; rw [if_neg h]
    have hw2 : IntKind.i64.wrap (l - (e.nm.size : Int) - (e.nw.size : Int)) = l - e.nm.size - e.nw.size := wrap_i64 (by have := hv.2.1; unfold maxLen at this; omega) (by unfold cap at h1; omega)
    have hd1 : dec l (chgW e) = dec (l - e.nm.size) (e.nw.size + colW e.col) := by rw [← hx]; exact (dec_add _ _ (by rw [hx]; exact h)).symm
    by_cases h3 : l - (e.nm.size : Int) - (e.nw.size : Int) < 0
    · have h2 : dec l (chgW e) = -1 := by rw [hd1]; exact dec_lt _ _ (by unfold dec; rw [if_pos h3]; decide)
      simp only [c_q57, go_sem, hw, h, hw2, h3, h2]
    · have hy : dec (l - e.nm.size) e.nw.size = l - e.nm.size - e.nw.size := by unfold dec; rw [if_neg h3]
      have hd2 : dec l (chgW e) = dec (l - e.nm.size - e.nw.size) (colW e.col) := by rw [hd1, ← hy]; exact (dec_add _ _ (by rw [hy]; exact h3)).symm
      have hs := d_szCol (show 2 ≤ D by omega) e.col (l - e.nm.size - e.nw.size) (by omega) (by omega) hv.2.2
      rw [← hd2] at hs
      by_cases h4 : dec l (chgW e) < 0
      · have h5 := dec_neg h4
        simp only [c_q57, go_sem, hw, h, hw2, h3, hs, h5, m1]
      · simp only [c_q57, go_sem, hw, h, hw2, h3, hs, h4]
theorem d_toChange {D : Nat} (hD : 3 ≤ D) (e : Chg) (_ : szG e) : den pr D f_q61 [.agg e.c] = some [.agg e.c] := by
  obtain ⟨D, rfl, hd⟩ := pred_of hD
  have h1 := d_toCol hd e.col
  rw [u_q61]
  simp only [c_q61, go_sem, h1]
theorem d_eqChange {D : Nat} (hD : 3 ≤ D) (e : Chg) (_ : szG e) : den pr D f_q64 [.agg e.c, .agg e.c] = some [.q true] := by
  obtain ⟨D, rfl, hd⟩ := pred_of hD
  have h1 := d_eqCol hd e.col
  rw [u_q64]
  simp only [c_q64, go_sem, h1]
theorem lp_szChangeS {D : Nat} (hD : 3 ≤ D) (es : List Chg) (l : Int) (h0 : 0 ≤ l) (h1 : l ≤ cap) (hl : es.length ≤ big) (hs : ∀ e ∈ es, szG e) :
    Ended (loopN (exec ⟨den pr D, dcl pr D⟩ b_q17_0) [0, 1, 5] rounds ⟨upd (upd (upd (fun _ => .bad) 0 (.lit t_laws_Change (es.map Chg.c))) 1 (.n l)) 5 (.n (0 : Nat)), fun _ => none, 0, 0⟩) Int Unit (runI (szGo chgW) 0 l es)
      (fun m o => ∃ σ', o = .exit 0 σ' ∧ σ'.s 1 = .n m) (fun _ o => ∃ σ', o = .ret σ' ∧ σ'.s 4 = .n (-1)) := by
  refine loop_all es (fun i (m : Int) => ⟨upd (upd (upd (fun _ => .bad) 0 (.lit t_laws_Change (es.map Chg.c))) 1 (.n m)) 5 (.n i), fun _ => none, 0, 0⟩) _ (fun _ m => 0 ≤ m ∧ m ≤ cap) _ _ l ⟨h0, h1⟩ hl (fun i m e K hc hlt hi => ?_) (fun m K _ => ?_)
  · have hr := map_at (f := Chg.c) hc
    have hw := wrap_nat (n := i) (by unfold big at hl; omega)
    have hm := d_szChange hD e m hi.1 hi.2 (hs e (List.mem_of_getElem? hc))
    simp only [loopN, e_q17_0, B_q17_0, go_sem, List.length_map, hr, hlt, hw, hm, szGo]
    by_cases h : dec m (chgW e) < 0
    · simp only [h, go_sem]; exact ⟨_, rfl, _, rfl, rfl⟩
    · obtain ⟨h4, h5⟩ := dec_ok h
      simp only [h, go_sem]
      exact ⟨by omega, by omega⟩
  · have hi : ¬ es.length < es.length := by omega
    simp only [loopN, e_q17_0, B_q17_0, go_sem, List.length_map, hi]
    exact ⟨_, rfl, _, rfl, rfl⟩
theorem d_szChangeS {D : Nat} (hD : 4 ≤ D) (es : List Chg) (l : Int) (h0 : 0 ≤ l) (h1 : l ≤ cap) (hl : es.length ≤ maxLen) (hs : ∀ e ∈ es, szG e) :
    den pr D f_q17 [.lit t_laws_Change (es.map Chg.c), .n l] = some [.n (szList chgW l es)] := by
  obtain ⟨D, rfl, hd⟩ := pred_of hD
  rw [u_q17]
  have hw : IntKind.i64.wrap (l - (es.length : Int)) = l - es.length := wrap_i64 (by unfold maxLen at hl; omega) (by unfold cap at h1; omega)
  simp only [c_q17, go_sem, List.length_map, hw, szList]
  by_cases h : l - (es.length : Int) < 0
  · simp only [h, go_sem]
  · have hb : es.length ≤ big := by unfold cap at h1; unfold big; omega
    obtain ⟨out, lo, lp⟩ := lp_szChangeS hd es (l - es.length) (by omega) (by omega) hb hs
    rw [show ((0 : Nat) : Int) = 0 from rfl] at lo
    rw [szRun_run] at lp
    cases hq : szRun chgW (l - es.length) es with
    | some m =>
      rw [hq] at lp
      obtain ⟨σ', rfl, l2⟩ := lp
      simp only [h, go_sem, lo, l2, Option.getD_some]
    | none =>
      rw [hq] at lp
      obtain ⟨σ', rfl, l2⟩ := lp
      simp only [h, go_sem, lo, l2, Option.getD_none]
theorem lp_toChangeS {D : Nat} (hD : 3 ≤ D) (es : List Chg) (hl : es.length ≤ big) (hs : ∀ e ∈ es, szG e) :
    Ended (loopN (exec ⟨den pr D, dcl pr D⟩ b_q23_0) [0, 3, 4] rounds ⟨upd (upd (upd (fun _ => .bad) 0 (.lit t_laws_Change (es.map Chg.c))) 3 (.ref t_impl_Change 0 0 es.length es.length true)) 4 (.n (0 : Nat)), upd (fun _ => none) 0 (some ⟨t_impl_Change, frow zChg (es.map Chg.c) 0, true, false⟩), 1, 0⟩) Unit Unit (runI (fun _ _ _ => .inl ()) 0 () es)
      (fun m o => ∃ σ', o = .exit 0 σ' ∧ σ'.s 3 = .ref t_impl_Change 0 0 es.length es.length true ∧ σ'.h 0 = some ⟨t_impl_Change, es.map Chg.c, true, false⟩) (fun _ o => False) := by
  refine loop_all es (fun i (_ : Unit) => ⟨upd (upd (upd (fun _ => .bad) 0 (.lit t_laws_Change (es.map Chg.c))) 3 (.ref t_impl_Change 0 0 es.length es.length true)) 4 (.n i), upd (fun _ => none) 0 (some ⟨t_impl_Change, frow zChg (es.map Chg.c) i, true, false⟩), 1, 0⟩) _ (fun _ _ => True) _ _ () trivial hl (fun i m e K hc hlt hi => ?_) (fun m K _ => ?_)
  · have hr := map_at (f := Chg.c) hc
    have hr' := map_at (f := Chg.c) hc
    have hw := wrap_nat (n := i) (by unfold big at hl; omega)
    have hm := d_toChange hD e (hs e (List.mem_of_getElem? hc))
    have hf : (frow zChg (es.map Chg.c) i)[i]? = some zChg := frow_at (by simpa using hlt)
    have hs := frow_set (z := zChg) hr'
    have hlen : (frow zChg (es.map Chg.c) i).length = es.length := by rw [frow_length (by simp; omega)]; simp
    simp only [loopN, e_q23_0, B_q23_0, go_sem, List.length_map, hr, hlt, hw, hm, hf, hs, hlen]
  · have hi : ¬ es.length < es.length := by omega
    have ha := frow_all zChg (es.map Chg.c)
    rw [List.length_map] at ha
    simp only [loopN, e_q23_0, B_q23_0, go_sem, List.length_map, hi, ha]
    exact ⟨_, rfl, _, rfl, rfl, rfl⟩
theorem d_toChangeS {D : Nat} (hD : 4 ≤ D) (es : List Chg) (hl : es.length ≤ big) (hs : ∀ e ∈ es, szG e) : den pr D f_q23 [.lit t_laws_Change (es.map Chg.c)] = some [.olit t_impl_Change (es.map Chg.c)] := by
  obtain ⟨D, rfl, hd⟩ := pred_of hD
  rw [u_q23]
  obtain ⟨out, lo, lp⟩ := lp_toChangeS hd es hl hs
  rw [run_unit] at lp
  obtain ⟨σ', rfl, l2, l3⟩ := lp
  rw [show ((0 : Nat) : Int) = 0 from rfl, frow_zero, List.length_map] at lo
  simp only [c_q23, go_sem, List.length_map, hl, lo, l2, l3]
theorem lp_eqChangeS {D : Nat} (hD : 3 ≤ D) (es : List Chg) (hl : es.length ≤ big) (hs : ∀ e ∈ es, szG e) :
    Ended (loopN (exec ⟨den pr D, dcl pr D⟩ b_q26_0) [0, 1, 5] rounds ⟨upd (upd (upd (fun _ => .bad) 0 (.lit t_impl_Change (es.map Chg.c))) 1 (.lit t_impl_Change (es.map Chg.c))) 5 (.n (0 : Nat)), fun _ => none, 0, 0⟩) Unit Unit (runI (fun _ _ _ => .inl ()) 0 () es)
      (fun m o => ∃ σ', o = .exit 0 σ') (fun _ o => False) := by
  refine loop_all es (fun i (_ : Unit) => ⟨upd (upd (upd (fun _ => .bad) 0 (.lit t_impl_Change (es.map Chg.c))) 1 (.lit t_impl_Change (es.map Chg.c))) 5 (.n i), fun _ => none, 0, 0⟩) _ (fun _ _ => True) _ _ () trivial hl (fun i m e K hc hlt hi => ?_) (fun m K _ => ?_)
  · have hr := map_at (f := Chg.c) hc
    have hw := wrap_nat (n := i) (by unfold big at hl; omega)
    have hm := d_eqChange hD e (hs e (List.mem_of_getElem? hc))
    simp only [loopN, e_q26_0, B_q26_0, go_sem, List.length_map, hr, hlt, hw, hm]
  · have hi : ¬ es.length < es.length := by omega
    simp only [loopN, e_q26_0, B_q26_0, go_sem, List.length_map, hi]
    exact ⟨_, rfl, _, rfl⟩
theorem d_eqChangeS {D : Nat} (hD : 4 ≤ D) (es : List Chg) (hl : es.length ≤ big) (hs : ∀ e ∈ es, szG e) : den pr D f_q26 [.lit t_impl_Change (es.map Chg.c), .lit t_impl_Change (es.map Chg.c)] = some [.q true] := by
  obtain ⟨D, rfl, hd⟩ := pred_of hD
  rw [u_q26]
  obtain ⟨out, lo, lp⟩ := lp_eqChangeS hd es hl hs
  rw [run_unit] at lp
  obtain ⟨σ', rfl⟩ := lp
  rw [show ((0 : Nat) : Int) = 0 from rfl] at lo
  simp only [c_q26, go_sem, List.length_map, lo]
theorem d_szRow {D : Nat} (hD : 3 ≤ D) (e : RowV) (l : Int) (h0 : 0 ≤ l) (h1 : l ≤ cap) (hv : szR e) : den pr D f_laws_szRow [.agg (rowL e), .n l] = some [.n (dec l (rowW e))] := by
  obtain ⟨D, rfl, hd⟩ := pred_of hD
  rw [u_laws_szRow]
  have hs := d_szValS (show 2 ≤ D by omega) e.vals l h0 h1 hv.1 hv.2
  rw [szList_dec _ _ _ h0] at hs
  have m1 : (-1 : Int) < 0 := by decide
  by_cases h4 : dec l (rowW e) < 0
  · have h5 := dec_neg h4
    simp only [rowW] at h5
    simp only [c_laws_szRow, go_sem, hs, h5, m1]
  · simp only [rowW] at h4
    simp only [c_laws_szRow, go_sem, hs, h4]
theorem d_toRow {D : Nat} (hD : 3 ≤ D) (e : RowV) (hv : e.vals.length ≤ big ∧ szR e) : den pr D f_laws_toRow [.agg (rowL e)] = some [.agg [.n e.id, .n e.ver, .olit t_impl_Val (e.vals.map Val.c)]] := by
  obtain ⟨D, rfl, hd⟩ := pred_of hD
  have h1 := d_toValS (show 2 ≤ D by omega) e.vals hv.1 hv.2.2
  have ht : (e.vals.map Val.c).take e.vals.length = e.vals.map Val.c := List.take_of_length_le (by simp)
  rw [u_laws_toRow]
  simp only [c_laws_toRow, go_sem, h1, ht, rowsSl_val, List.length_map, Nat.le_refl, if_true]
theorem d_eqRow {D : Nat} (hD : 3 ≤ D) (e : RowV) (hv : e.vals.length ≤ big ∧ szR e) : den pr D f_laws_eqRow [.agg e.c, .agg e.c] = some [.q true] := by
  obtain ⟨D, rfl, hd⟩ := pred_of hD
  have h1 := d_eqValS (show 2 ≤ D by omega) e.vals hv.1 hv.2.2
  rw [u_laws_eqRow]
  simp only [c_laws_eqRow, go_sem, h1]
theorem lp_szRowS {D : Nat} (hD : 3 ≤ D) (es : List RowV) (l : Int) (h0 : 0 ≤ l) (h1 : l ≤ cap) (hl : es.length ≤ big) (hs : ∀ e ∈ es, szR e) :
    Ended (loopN (exec ⟨den pr D, dcl pr D⟩ b_laws_szRowS_0) [0, 1, 5] rounds ⟨upd (upd (upd (fun _ => .bad) 0 (.lit t_laws_Row (es.map rowL))) 1 (.n l)) 5 (.n (0 : Nat)), fun _ => none, 0, 0⟩) Int Unit (runI (szGo rowW) 0 l es)
      (fun m o => ∃ σ', o = .exit 0 σ' ∧ σ'.s 1 = .n m) (fun _ o => ∃ σ', o = .ret σ' ∧ σ'.s 4 = .n (-1)) := by
  refine loop_all es (fun i (m : Int) => ⟨upd (upd (upd (fun _ => .bad) 0 (.lit t_laws_Row (es.map rowL))) 1 (.n m)) 5 (.n i), fun _ => none, 0, 0⟩) _ (fun _ m => 0 ≤ m ∧ m ≤ cap) _ _ l ⟨h0, h1⟩ hl (fun i m e K hc hlt hi => ?_) (fun m K _ => ?_)
  · have hr := map_at (f := rowL) hc
    have hw := wrap_nat (n := i) (by unfold big at hl; omega)
    have hm := d_szRow hD e m hi.1 hi.2 (hs e (List.mem_of_getElem? hc))
    simp only [loopN, e_laws_szRowS_0, B_laws_szRowS_0, go_sem, List.length_map, hr, hlt, hw, hm, szGo]
    by_cases h : dec m (rowW e) < 0
    · simp only [h, go_sem]; exact ⟨_, rfl, _, rfl, rfl⟩
    · obtain ⟨h4, h5⟩ := dec_ok h
      simp only [h, go_sem]
      exact ⟨by omega, by omega⟩
  · have hi : ¬ es.length < es.length := by omega
    simp only [loopN, e_laws_szRowS_0, B_laws_szRowS_0, go_sem, List.length_map, hi]
    exact ⟨_, rfl, _, rfl, rfl⟩
theorem d_szRowS {D : Nat} (hD : 4 ≤ D) (es : List RowV) (l : Int) (h0 : 0 ≤ l) (h1 : l ≤ cap) (hl : es.length ≤ maxLen) (hs : ∀ e ∈ es, szR e) :
    den pr D f_laws_szRowS [.lit t_laws_Row (es.map rowL), .n l] = some [.n (szList rowW l es)] := by
  obtain ⟨D, rfl, hd⟩ := pred_of hD
  rw [u_laws_szRowS]
  have hw : IntKind.i64.wrap (l - (es.length : Int)) = l - es.length := wrap_i64 (by unfold maxLen at hl; omega) (by unfold cap at h1; omega)
  simp only [c_laws_szRowS, go_sem, List.length_map, hw, szList]
  by_cases h : l - (es.length : Int) < 0
  · simp only [h, go_sem]
  · have hb : es.length ≤ big := by unfold cap at h1; unfold big; omega
    obtain ⟨out, lo, lp⟩ := lp_szRowS hd es (l - es.length) (by omega) (by omega) hb hs
    rw [show ((0 : Nat) : Int) = 0 from rfl] at lo
    rw [szRun_run] at lp
    cases hq : szRun rowW (l - es.length) es with
    | some m =>
      rw [hq] at lp
      obtain ⟨σ', rfl, l2⟩ := lp
      simp only [h, go_sem, lo, l2, Option.getD_some]
    | none =>
      rw [hq] at lp
      obtain ⟨σ', rfl, l2⟩ := lp
      simp only [h, go_sem, lo, l2, Option.getD_none]
abbrev szR2 (r : RowV) : Prop := r.vals.length ≤ big ∧ szR r
theorem lp_eqRowS {D : Nat} (hD : 3 ≤ D) (es : List RowV) (hl : es.length ≤ big) (hs : ∀ e ∈ es, szR2 e) :
    Ended (loopN (exec ⟨den pr D, dcl pr D⟩ b_laws_eqRowS_0) [0, 1, 5] rounds ⟨upd (upd (upd (fun _ => .bad) 0 (.lit t_impl_Row (es.map RowV.c))) 1 (.lit t_impl_Row (es.map RowV.c))) 5 (.n (0 : Nat)), fun _ => none, 0, 0⟩) Unit Unit (runI (fun _ _ _ => .inl ()) 0 () es)
      (fun m o => ∃ σ', o = .exit 0 σ') (fun _ o => False) := by
  refine loop_all es (fun i (_ : Unit) => ⟨upd (upd (upd (fun _ => .bad) 0 (.lit t_impl_Row (es.map RowV.c))) 1 (.lit t_impl_Row (es.map RowV.c))) 5 (.n i), fun _ => none, 0, 0⟩) _ (fun _ _ => True) _ _ () trivial hl (fun i m e K hc hlt hi => ?_) (fun m K _ => ?_)
  · have hr := map_at (f := RowV.c) hc
    have hw := wrap_nat (n := i) (by unfold big at hl; omega)
    have hm := d_eqRow hD e (hs e (List.mem_of_getElem? hc))
    simp only [loopN, e_laws_eqRowS_0, B_laws_eqRowS_0, go_sem, List.length_map, hr, hlt, hw, hm]
  · have hi : ¬ es.length < es.length := by omega
    simp only [loopN, e_laws_eqRowS_0, B_laws_eqRowS_0, go_sem, List.length_map, hi]
    exact ⟨_, rfl, _, rfl⟩
theorem d_eqRowS {D : Nat} (hD : 4 ≤ D) (es : List RowV) (hl : es.length ≤ big) (hs : ∀ e ∈ es, szR2 e) : den pr D f_laws_eqRowS [.lit t_impl_Row (es.map RowV.c), .lit t_impl_Row (es.map RowV.c)] = some [.q true] := by
  obtain ⟨D, rfl, hd⟩ := pred_of hD
  rw [u_laws_eqRowS]
  obtain ⟨out, lo, lp⟩ := lp_eqRowS hd es hl hs
  rw [run_unit] at lp
  obtain ⟨σ', rfl⟩ := lp
  rw [show ((0 : Nat) : Int) = 0 from rfl] at lo
  simp only [c_laws_eqRowS, go_sem, List.length_map, lo]
structure FitT (t : Tab) : Prop where
  clen : t.first.length ≤ maxLen
  cols : ∀ c ∈ t.first, szC c
  glen : t.chg.length ≤ maxLen
  chg : ∀ c ∈ t.chg, szG c
  rlen : t.rows.length ≤ maxLen
  rows : ∀ r ∈ t.rows, szR r
theorem sum_le {α : Type} (w : α → Nat) : ∀ (l : List α) (x : α), x ∈ l → w x ≤ (l.map w).sum
  | y :: l, x, h => by
    rw [List.map_cons, List.sum_cons]
    rcases List.mem_cons.1 h with h | h
    · subst h; omega
    · have := sum_le w l x h; omega
structure MidT (t : Tab) : Prop where
  small : SmallT t
  rows : ∀ r ∈ t.rows, szR2 r
theorem d_szTable {D : Nat} (hD : 5 ≤ D) (t : Tab) (hf : FitT t) : ∃ m : Int, den pr D f_laws_szTable [.agg (tabL t), .n cap] = some [.n m] ∧ (m < 0 ∨ MidT t) := by
  obtain ⟨D, rfl, hd⟩ := pred_of hD
  rw [u_laws_szTable]
  have m1 : (-1 : Int) < 0 := by decide
  have c0 : (0 : Int) ≤ cap := by decide
  have e1 := d_szColS (show 3 ≤ D by omega) t.first cap c0 (Int.le_refl _) hf.clen hf.cols
  by_cases h1 : szList colW cap t.first < 0
  · refine ⟨-1, ?_, .inl m1⟩
    simp only [c_laws_szTable, go_sem, e1, h1]
  · obtain ⟨a1, b1, b1'⟩ := szList_ok c0 h1
    have g1 : 0 ≤ szList colW cap t.first := by omega
    generalize szList colW cap t.first = l1 at *
    have e2 := d_szChangeS (show 4 ≤ D by omega) t.chg l1 g1 a1 hf.glen hf.chg
    by_cases h2 : szList chgW l1 t.chg < 0
    · refine ⟨-1, ?_, .inl m1⟩
      simp only [c_laws_szTable, go_sem, e1, h1, e2, h2]
    · obtain ⟨a2, b2, b2'⟩ := szList_ok g1 h2
      have g2 : 0 ≤ szList chgW l1 t.chg := by omega
      generalize szList chgW l1 t.chg = l2 at *
      have e3 := d_szRowS (show 4 ≤ D by omega) t.rows l2 g2 (by omega) hf.rlen hf.rows
      by_cases h3 : szList rowW l2 t.rows < 0
      · refine ⟨-1, ?_, .inl m1⟩
        simp only [c_laws_szTable, go_sem, e1, h1, e2, h2, e3, h3]
      · obtain ⟨a3, b3, b3'⟩ := szList_ok g2 h3
        have hr : ∀ r ∈ t.rows, ((r.vals.length + (r.vals.map valW).sum : Nat) : Int) ≤ 1048576 := fun r hr => by
          have := b3' r hr; simp only [rowW] at this; unfold cap at a1; omega
        refine ⟨szList rowW l2 t.rows, ?_, .inr ⟨⟨⟨by unfold cap at a1 b1; unfold big; omega, fun e he => ?_⟩, by unfold cap at b1; unfold big; omega, fun c hc => ?_, by unfold cap at a1; unfold big; omega, by unfold cap at a1; unfold big; omega, fun r hr' => ⟨fun v hv => ?_, ?_⟩⟩, fun r hr' => ⟨?_, hf.rows r hr'⟩⟩⟩
        · simp only [c_laws_szTable, go_sem, e1, h1, e2, h2, e3, h3]
        · have := b1' e he; unfold cap at this; simp only [colW] at this; unfold big; omega
        · have := b2' c hc; unfold cap at a1; simp only [chgW, colW] at this
          exact ⟨by unfold big; omega, by unfold big; omega, by unfold big; omega, by unfold big; omega⟩
        · have h := hr r hr'; have h' := sum_le valW r.vals v hv; simp only [valW] at h h'; unfold big; omega
        · have h := hr r hr'; unfold big; omega
        · have h := hr r hr'; unfold big; omega
theorem rowsSl_chg (es : List Chg) : rowsSl (es.map Chg.c) = false := rowsSl_map _ (fun _ => rfl) es
theorem d_eqTable {D : Nat} (hD : 5 ≤ D) (t : Tab) (hf : FitT t) (hm : MidT t) : den pr D f_laws_eqTable [.agg t.c, .agg t.c] = some [.q true] := by
  obtain ⟨D, rfl, hd⟩ := pred_of hD
  rw [u_laws_eqTable]
  have hs := hm.small
  have e1 := d_eqColS (show 3 ≤ D by omega) t.first (by have := hs.clen; omega)
  have e2 := d_eqChangeS (show 4 ≤ D by omega) t.chg hs.glen hf.chg
  have e3 := d_eqRowS (show 4 ≤ D by omega) t.rows hs.rlen hm.rows
  simp only [c_laws_eqTable, go_sem, e1, e2, e3]
end Go.Vm.T

/-
  The head of a loop whose state holds rows of rows: what the numbering anew yields, where the names that the state leads to are told.
-/
set_option linter.unusedVariables false
set_option linter.unusedSimpArgs false
namespace Go.Vm
theorem addAll_old {base : Nat} : ∀ {bs acc : List Nat}, (∀ b ∈ bs, b < base ∨ b ∈ acc) → addAll base acc bs = acc
  | [], acc, _ => rfl
  | b :: bs, acc, h => by
    unfold addAll
    rw [if_pos (h b (by simp))]
    exact addAll_old fun c hc => h c (by simp [hc])
theorem addAll_new {base : Nat} : ∀ {bs acc : List Nat}, (∀ b ∈ bs, base ≤ b ∧ b ∉ acc) → bs.Nodup → addAll base acc bs = acc ++ bs
  | [], acc, _, _ => by simp [addAll]
  | b :: bs, acc, h, hn => by
    have hb := h b (by simp)
    unfold addAll
    rw [if_neg (by simp only [not_or]; exact ⟨by omega, hb.2⟩)]
    rw [addAll_new (bs := bs) (acc := acc ++ [b]) (fun c hc => ?_) (List.nodup_cons.1 hn).2]
    · simp
    · have := h c (by simp [hc])
      refine ⟨this.1, ?_⟩
      rw [List.mem_append, List.mem_singleton]
      rintro (q | q)
      · exact this.2 q
      · subst q; exact (List.nodup_cons.1 hn).1 hc
theorem reach2 {base : Nat} {h : Hp} {N0 : List Nat} (hb : ∀ b ∈ belows h (addAll base N0 (belows h N0)), b < base ∨ b ∈ addAll base N0 (belows h N0)) : reach base h 2 N0 = addAll base N0 (belows h N0) := by
  unfold reach reach reach
  exact addAll_old hb
theorem belows_nil {h : Hp} : ∀ {l : List Nat}, (∀ b ∈ l, below h b = []) → belows h l = []
  | [], _ => rfl
  | x :: l, hl => by
    unfold belows
    rw [hl x (by simp), belows_nil fun b hb => hl b (by simp [hb])]
    rfl
theorem heapOf_new (base : Nat) (h : Hp) (ns : List Nat) : ∀ (bs : List Nat) (h' : Hp) (k : Nat), (∀ i, k ≤ i → h' i = none) → heapOf base h h' ns bs k = fun i => if i < k then h' i else match bs[i - k]? with | some b => (h b).map (renBlk base ns) | none => none
  | [], h', k, hn => by
    funext i
    unfold heapOf
    by_cases hi : i < k
    · rw [if_pos hi]
    · rw [if_neg hi, hn i (by omega)]; simp
  | b :: bs, h', k, hn => by
    unfold heapOf
    cases hb : h b with
    | none =>
      simp only
      rw [heapOf_new base h ns bs h' (k + 1) fun i hi => hn i (by omega)]
      funext i
      rcases Nat.lt_trichotomy i k with hi | hi | hi
      · simp [hi, show i < k + 1 by omega]
      · subst hi
        simp [hb, hn i (Nat.le_refl i)]
      · rw [if_neg (by omega), if_neg (by omega), show i - k = (i - (k + 1)) + 1 by omega, List.getElem?_cons_succ]
    | some blk =>
      simp only
      rw [heapOf_new base h ns bs _ (k + 1) fun i hi => by rw [upd_apply, if_neg (by omega)]; exact hn i (by omega)]
      funext i
      rcases Nat.lt_trichotomy i k with hi | hi | hi
      · rw [if_pos (by omega), if_pos hi, upd_apply, if_neg (by omega)]
      · subst hi
        simp [hb, upd_apply]
      · rw [if_neg (by omega), if_neg (by omega), show i - k = (i - (k + 1)) + 1 by omega, List.getElem?_cons_succ]
def hpNew (base : Nat) (h : Hp) (ns : List Nat) : Hp := fun i => if i < base then h i else match ns[i - base]? with
  | some b => (h b).map (renBlk base ns)
  | none => none
theorem canon_at {L : List Nat} {σ : St} {ns : List Nat} (hr : reach σ.base σ.h 2 (namesOf σ.base σ.s [] L) = ns) (hc : closed σ.base σ.h ns = true) :
    canon L σ = some ⟨slotsOf σ.base ns σ.s (fun _ => .bad) L, hpNew σ.base σ.h ns, σ.base + ns.length, σ.base⟩ := by
  unfold canon canonOf
  rw [hr, hc, cond_true]
  congr 2
  rw [heapOf_new σ.base σ.h ns ns (low σ.base σ.h) σ.base fun i hi => by unfold low; rw [if_neg (by omega)]]
  funext i
  unfold hpNew low
  by_cases hi : i < σ.base
  · simp [hi]
  · simp [hi]
theorem posn_range : ∀ (k base b : Nat), base ≤ b → b < base + k → posn (List.range' base k) b base = b
  | 0, base, b, h1, h2 => by omega
  | k + 1, base, b, h1, h2 => by
    rw [List.range'_succ]
    unfold posn
    by_cases hb : base = b
    · rw [if_pos hb]; exact hb
    · rw [if_neg hb]; exact posn_range k (base + 1) b (by omega) (by omega)
theorem nw_id {base k b : Nat} (h : b < base + k) : nw base (List.range' base k) b = b := by
  unfold nw
  by_cases hb : b < base
  · rw [if_pos hb]
  · rw [if_neg hb]; exact posn_range k base b (by omega) h
end Go.Vm
end
