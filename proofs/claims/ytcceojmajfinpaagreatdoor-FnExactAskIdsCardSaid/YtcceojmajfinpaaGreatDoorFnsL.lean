/-
  The law, statement by statement
-/
import Derived.Test.YtcceojmajfinpaaGreatDoorFnsK
section
set_option linter.unusedVariables false
set_option linter.unusedSectionVars false
set_option linter.unusedSimpArgs false
/- Conditions: sizes, copies, equalities; a table's size with its sums. -/
namespace Go.Vm.T
open Go.Proofs
abbrev zCond : List A := [.s ⟨#[]⟩, .n 0, .n 0, .n 0, .s ⟨#[]⟩]
abbrev szD (c : CondV) : Prop := c.nm.size ≤ maxLen ∧ c.v.t.size ≤ maxLen
variable [Pr2]
theorem d_eqCond {D : Nat} (hD : 2 ≤ D) (e : CondV) : den pr D f_laws_eqCond [.agg e.c, .agg e.c] = some [.q true] := by
  obtain ⟨D, rfl, hd⟩ := pred_of hD
  have h1 := d_eqVal hd e.v
  rw [u_laws_eqCond]
  simp only [c_laws_eqCond, go_sem, h1]
theorem lp_szCondS {D : Nat} (hD : 2 ≤ D) (es : List CondV) (l : Int) (h0 : 0 ≤ l) (h1 : l ≤ cap) (hl : es.length ≤ big) (hs : ∀ e ∈ es, szD e) :
    Ended (loopN (exec ⟨den pr D, dcl pr D⟩ b_laws_szCondS_0) [0, 1, 5] rounds ⟨upd (upd (upd (fun _ => .bad) 0 (.lit t_laws_Cond (es.map CondV.c))) 1 (.n l)) 5 (.n (0 : Nat)), fun _ => none, 0, 0⟩) Int Unit (runI (szGo condW) 0 l es)
      (fun m o => ∃ σ', o = .exit 0 σ' ∧ σ'.s 1 = .n m) (fun _ o => ∃ σ', o = .ret σ' ∧ σ'.s 4 = .n (-1)) := by
  refine loop_all es (fun i (m : Int) => ⟨upd (upd (upd (fun _ => .bad) 0 (.lit t_laws_Cond (es.map CondV.c))) 1 (.n m)) 5 (.n i), fun _ => none, 0, 0⟩) _ (fun _ m => 0 ≤ m ∧ m ≤ cap) _ _ l ⟨h0, h1⟩ hl (fun i m e K hc hlt hi => ?_) (fun m K _ => ?_)
  · have hr := map_at (f := CondV.c) hc
    have hw := wrap_nat (n := i) (by unfold big at hl; omega)
    have hm := d_szCond hD e m hi.1 hi.2 (hs e (List.mem_of_getElem? hc))
    simp only [loopN, e_laws_szCondS_0, B_laws_szCondS_0, go_sem, List.length_map, hr, hlt, hw, hm, szGo]
    by_cases h : dec m (condW e) < 0
    · simp only [h, go_sem]; exact ⟨_, rfl, _, rfl, rfl⟩
    · obtain ⟨h4, h5⟩ := dec_ok h
      simp only [h, go_sem]
      exact ⟨by omega, by omega⟩
  · have hi : ¬ es.length < es.length := by omega
    simp only [loopN, e_laws_szCondS_0, B_laws_szCondS_0, go_sem, List.length_map, hi]
    exact ⟨_, rfl, _, rfl, rfl⟩
theorem d_szCondS {D : Nat} (hD : 3 ≤ D) (es : List CondV) (l : Int) (h0 : 0 ≤ l) (h1 : l ≤ cap) (hl : es.length ≤ maxLen) (hs : ∀ e ∈ es, szD e) :
    den pr D f_laws_szCondS [.lit t_laws_Cond (es.map CondV.c), .n l] = some [.n (szList condW l es)] := by
  obtain ⟨D, rfl, hd⟩ := pred_of hD
  rw [u_laws_szCondS]
  have hw : IntKind.i64.wrap (l - (es.length : Int)) = l - es.length := wrap_i64 (by unfold maxLen at hl; omega) (by unfold cap at h1; omega)
  simp only [c_laws_szCondS, go_sem, List.length_map, hw, szList]
  by_cases h : l - (es.length : Int) < 0
  · simp only [h, go_sem]
  · have hb : es.length ≤ big := by unfold cap at h1; unfold big; omega
    obtain ⟨out, lo, lp⟩ := lp_szCondS hd es (l - es.length) (by omega) (by omega) hb hs
    rw [show ((0 : Nat) : Int) = 0 from rfl] at lo
    rw [szRun_run] at lp
    cases hq : szRun condW (l - es.length) es with
    | some m =>
      rw [hq] at lp
      obtain ⟨σ', rfl, l2⟩ := lp
      simp only [h, go_sem, lo, l2, Option.getD_some]
    | none =>
      rw [hq] at lp
      obtain ⟨σ', rfl, l2⟩ := lp
      simp only [h, go_sem, lo, l2, Option.getD_none]
theorem lp_toCondS {D : Nat} (hD : 2 ≤ D) (es : List CondV) (hl : es.length ≤ big) (hs : ∀ e ∈ es, szD e) :
    Ended (loopN (exec ⟨den pr D, dcl pr D⟩ b_laws_toCondS_0) [0, 3, 4] rounds ⟨upd (upd (upd (fun _ => .bad) 0 (.lit t_laws_Cond (es.map CondV.c))) 3 (.ref t_impl_Cond 0 0 es.length es.length true)) 4 (.n (0 : Nat)), upd (fun _ => none) 0 (some ⟨t_impl_Cond, frow zCond (es.map CondV.c) 0, true, false⟩), 1, 0⟩) Unit Unit (runI (fun _ _ _ => .inl ()) 0 () es)
      (fun m o => ∃ σ', o = .exit 0 σ' ∧ σ'.s 3 = .ref t_impl_Cond 0 0 es.length es.length true ∧ σ'.h 0 = some ⟨t_impl_Cond, es.map CondV.c, true, false⟩) (fun _ o => False) := by
  refine loop_all es (fun i (_ : Unit) => ⟨upd (upd (upd (fun _ => .bad) 0 (.lit t_laws_Cond (es.map CondV.c))) 3 (.ref t_impl_Cond 0 0 es.length es.length true)) 4 (.n i), upd (fun _ => none) 0 (some ⟨t_impl_Cond, frow zCond (es.map CondV.c) i, true, false⟩), 1, 0⟩) _ (fun _ _ => True) _ _ () trivial hl (fun i m e K hc hlt hi => ?_) (fun m K _ => ?_)
  · have hr := map_at (f := CondV.c) hc
    have hr' := map_at (f := CondV.c) hc
    have hw := wrap_nat (n := i) (by unfold big at hl; omega)
    have hm := d_toCond hD e
    have hf : (frow zCond (es.map CondV.c) i)[i]? = some zCond := frow_at (by simpa using hlt)
    have hs := frow_set (z := zCond) hr'
    have hlen : (frow zCond (es.map CondV.c) i).length = es.length := by rw [frow_length (by simp; omega)]; simp
    simp only [loopN, e_laws_toCondS_0, B_laws_toCondS_0, go_sem, List.length_map, hr, hlt, hw, hm, hf, hs, hlen]
  · have hi : ¬ es.length < es.length := by omega
    have ha := frow_all zCond (es.map CondV.c)
    rw [List.length_map] at ha
    simp only [loopN, e_laws_toCondS_0, B_laws_toCondS_0, go_sem, List.length_map, hi, ha]
    exact ⟨_, rfl, _, rfl, rfl, rfl⟩
theorem d_toCondS {D : Nat} (hD : 3 ≤ D) (es : List CondV) (hl : es.length ≤ big) (hs : ∀ e ∈ es, szD e) : den pr D f_laws_toCondS [.lit t_laws_Cond (es.map CondV.c)] = some [.olit t_impl_Cond (es.map CondV.c)] := by
  obtain ⟨D, rfl, hd⟩ := pred_of hD
  rw [u_laws_toCondS]
  obtain ⟨out, lo, lp⟩ := lp_toCondS hd es hl hs
  rw [run_unit] at lp
  obtain ⟨σ', rfl, l2, l3⟩ := lp
  rw [show ((0 : Nat) : Int) = 0 from rfl, frow_zero, List.length_map] at lo
  simp only [c_laws_toCondS, go_sem, List.length_map, hl, lo, l2, l3]
theorem lp_eqCondS {D : Nat} (hD : 2 ≤ D) (es : List CondV) (hl : es.length ≤ big) (hs : ∀ e ∈ es, szD e) :
    Ended (loopN (exec ⟨den pr D, dcl pr D⟩ b_laws_eqCondS_0) [0, 1, 5] rounds ⟨upd (upd (upd (fun _ => .bad) 0 (.lit t_impl_Cond (es.map CondV.c))) 1 (.lit t_impl_Cond (es.map CondV.c))) 5 (.n (0 : Nat)), fun _ => none, 0, 0⟩) Unit Unit (runI (fun _ _ _ => .inl ()) 0 () es)
      (fun m o => ∃ σ', o = .exit 0 σ') (fun _ o => False) := by
  refine loop_all es (fun i (_ : Unit) => ⟨upd (upd (upd (fun _ => .bad) 0 (.lit t_impl_Cond (es.map CondV.c))) 1 (.lit t_impl_Cond (es.map CondV.c))) 5 (.n i), fun _ => none, 0, 0⟩) _ (fun _ _ => True) _ _ () trivial hl (fun i m e K hc hlt hi => ?_) (fun m K _ => ?_)
  · have hr := map_at (f := CondV.c) hc
    have hw := wrap_nat (n := i) (by unfold big at hl; omega)
    have hm := d_eqCond hD e
    simp only [loopN, e_laws_eqCondS_0, B_laws_eqCondS_0, go_sem, List.length_map, hr, hlt, hw, hm]
  · have hi : ¬ es.length < es.length := by omega
    simp only [loopN, e_laws_eqCondS_0, B_laws_eqCondS_0, go_sem, List.length_map, hi]
    exact ⟨_, rfl, _, rfl⟩
theorem d_eqCondS {D : Nat} (hD : 3 ≤ D) (es : List CondV) (hl : es.length ≤ big) (hs : ∀ e ∈ es, szD e) : den pr D f_laws_eqCondS [.lit t_impl_Cond (es.map CondV.c), .lit t_impl_Cond (es.map CondV.c)] = some [.q true] := by
  obtain ⟨D, rfl, hd⟩ := pred_of hD
  rw [u_laws_eqCondS]
  obtain ⟨out, lo, lp⟩ := lp_eqCondS hd es hl hs
  rw [run_unit] at lp
  obtain ⟨σ', rfl⟩ := lp
  rw [show ((0 : Nat) : Int) = 0 from rfl] at lo
  simp only [c_laws_eqCondS, go_sem, List.length_map, lo]
theorem sum_len (rows : List RowV) : (rows.map rowK).sum ≤ 3 * (rows.length + (rows.map rowW).sum) := by
  induction rows with
  | nil => simp
  | cons r rows ih =>
    simp only [List.map_cons, List.sum_cons, List.length_cons, rowK, rowW] at *
    omega
theorem d_szTable2 {D : Nat} (hD : 5 ≤ D) (t : Tab) (hf : FitT t) : ∃ m : Int, den pr D f_laws_szTable [.agg (tabL t), .n cap] = some [.n m] ∧ (m < 0 ∨ (MidT t ∧ Sums t ∧ 0 ≤ m ∧ m ≤ cap)) := by
  obtain ⟨D, rfl, hd⟩ := pred_of hD
  obtain ⟨m, e0, hm⟩ := d_szTable (D := D + 1) hD t hf
  refine ⟨m, e0, ?_⟩
  by_cases hneg : m < 0
  · exact .inl hneg
  · refine .inr ⟨hm.resolve_left hneg, ?_⟩
    rw [u_laws_szTable] at e0
    have c0 : (0 : Int) ≤ cap := by decide
    have e1 := d_szColS (show 3 ≤ D by omega) t.first cap c0 (Int.le_refl _) hf.clen hf.cols
    by_cases h1 : szList colW cap t.first < 0
    · simp only [c_laws_szTable, go_sem, e1, h1] at e0
      simp only [Option.some.injEq, List.cons.injEq, A.v.injEq, Value.int.injEq, true_and, and_true] at e0
      omega
    · obtain ⟨a1, b1, b1'⟩ := szList_ok c0 h1
      have g1 : 0 ≤ szList colW cap t.first := by omega
      generalize szList colW cap t.first = l1 at *
      have e2 := d_szChangeS (show 4 ≤ D by omega) t.chg l1 g1 a1 hf.glen hf.chg
      by_cases h2 : szList chgW l1 t.chg < 0
      · simp only [c_laws_szTable, go_sem, e1, h1, e2, h2] at e0
        simp only [Option.some.injEq, List.cons.injEq, A.v.injEq, Value.int.injEq, true_and, and_true] at e0
        omega
      · obtain ⟨a2, b2, b2'⟩ := szList_ok g1 h2
        have g2 : 0 ≤ szList chgW l1 t.chg := by omega
        generalize szList chgW l1 t.chg = l2 at *
        have e3 := d_szRowS (show 4 ≤ D by omega) t.rows l2 g2 (by omega) hf.rlen hf.rows
        by_cases h3 : szList rowW l2 t.rows < 0
        · simp only [c_laws_szTable, go_sem, e1, h1, e2, h2, e3, h3] at e0
          simp only [Option.some.injEq, List.cons.injEq, A.v.injEq, Value.int.injEq, true_and, and_true] at e0
          omega
        · obtain ⟨a3, b3, b3'⟩ := szList_ok g2 h3
          simp only [c_laws_szTable, go_sem, e1, h1, e2, h2, e3, h3] at e0
          simp only [Option.some.injEq, List.cons.injEq, A.v.injEq, Value.int.injEq, true_and, and_true] at e0
          have hd3 := szList_dec rowW t.rows l2 g2
          have h3' : ¬ dec l2 (t.rows.length + (t.rows.map rowW).sum) < 0 := by rw [← hd3]; exact h3
          obtain ⟨_, h4⟩ := dec_ok h3'
          have hs := sum_len t.rows
          unfold cap at *
          exact ⟨⟨by omega, by omega, by omega⟩, by omega, by omega⟩
end Go.Vm.T

/- The law of AskIds, statement by statement. -/
namespace Go.Vm.T
open Go.Proofs
def hdS : ACode → ACode
  | .sq a _ => a
  | c => c
def tlS : ACode → ACode
  | .sq _ b => b
  | c => c
def nthS : Nat → ACode → ACode
  | 0, c => c
  | n + 1, c => tlS (nthS n c)
theorem st_ex {E : Env} {C : ACode} {σ σ' : St} (i : Nat) (h : exec E (hdS (nthS i C)) σ = some (.norm σ')) (hC : nthS i C = .sq (hdS (nthS i C)) (nthS (i + 1) C)) : exec E (nthS i C) σ = exec E (nthS (i + 1) C) σ' := by
  rw [hC]
  show seqO (exec E (hdS (nthS i C)) σ) (fun τ => exec E (nthS (i + 1) C) τ) = _
  rw [h]
  rfl
variable [Pr2]
theorem toTab_fun {D : Nat} (hD : 5 ≤ D) (t : Tab) (hf : FitT t) (hm : MidT t) : ∃ F : Hp → Nat → Hp, ∀ h m, dcl pr D f_laws_toTable [.agg (tabL t)] h m = some ([.agg (refsT (m + 9) (m + 10) (m + 11) t)], F h m, m + 11 + (t.rows.length + 1)) ∧ TabH (F h m) (m + 9) (m + 10) (m + 11) t ∧ ∀ x, x < m → F h m x = h x :=
  ⟨fun h m => Classical.choose (v_toTable hD t hf hm h m), fun h m => Classical.choose_spec (v_toTable hD t hf hm h m)⟩
theorem TabH.upd {h : Hp} {a b c k : Nat} {t : Tab} {x : Option Blk} (H : TabH h a b c t) (ha : ¬ a = k) (hb : ¬ b = k) (hc : k < c ∨ c + t.rows.length < k) : TabH (Go.Vm.upd h k x) a b c t := by
  refine ⟨by rw [upd_apply, if_neg ha]; exact H.cols, by rw [upd_apply, if_neg hb]; exact H.chgs, by rw [upd_apply, if_neg (by omega)]; exact H.rows.top, fun j r hr => ?_⟩
  have hj := (List.getElem?_eq_some_iff.1 hr).1
  rw [upd_apply, if_neg (by omega)]
  exact H.rows.vals j r hr
theorem rowsCl {h : Hp} {c : Nat} {rows : List RowV} (H : RowsAt h c rows) : ∃ ns, clDRows (clD h 3) (roL c rows) = some (rows.map RowV.c, ns) := by
  obtain ⟨ns, hns⟩ := clD_rows (h := h) (c := c) (m := 2) rows 0 (fun j r hr => by rw [show 0 + j + 1 = j + 1 by omega]; exact H.vals j r hr)
  have hro : (rows.mapIdx fun j r => ro c (0 + j) r) = roL c rows := by unfold roL; congr 1; funext j r; rw [Nat.zero_add]
  rw [hro] at hns
  exact ⟨ns, hns⟩
theorem ai_6 {D : Nat} (hD : 12 ≤ D) (t : Tab) (hf : FitT t) (hm : MidT t) (conds : List CondV) (hl : conds.length ≤ big) (hd : SmallD conds) (hz : ∀ c ∈ conds, szD c) (s : Nat → A) (G : Hp) (n : Nat) (hn : 0 < n) (s1 : s 1 = .lit t_laws_Cond (conds.map CondV.c)) (s2 : s 2 = .ptr 0 0 0) (g0 : G 0 = some ⟨t_laws_Table, [tabL t], true, true⟩) :
    ∃ s' G' n' w, exec ⟨den pr D, dcl pr D⟩ (hdS (nthS 6 c_q0.code)) ⟨s, G, n, 0⟩ = some (.norm ⟨s', G', n', 0⟩) ∧ n < n' ∧ s' 1 = .lit t_laws_Cond (conds.map CondV.c) ∧ s' 2 = .ptr 0 0 0 ∧ G' 0 = some ⟨t_laws_Table, [tabL t], true, true⟩ ∧ s' 6 = .ref t_int w 0 (askIdsL t conds).length (askIdsL t conds).length false ∧ G' w = some ⟨t_int, (askIdsL t conds).map intC, true, false⟩ ∧ 0 < w ∧ w < n' := by
  obtain ⟨F, hF⟩ := toTab_fun (show 5 ≤ D by omega) t hf hm
  obtain ⟨e1, H1, k1⟩ := hF G (n + 2)
  have e2 := d_toCondS (show 3 ≤ D by omega) conds hl hz
  have e3 := d_spec_AskIds hD t hm.small conds hl hd
  have H2 := H1.upd (k := n + 2 + 11 + (t.rows.length + 1)) (x := some ⟨t_impl_Cond, conds.map CondV.c, true, false⟩) (by omega) (by omega) (by omega)
  obtain ⟨ns, hns⟩ := rowsCl H2.rows
  have q1 := H2.cols
  have q2 := H2.chgs
  have q3 := H2.rows.top
  have t1 : (t.first.map ColV.c).take t.first.length = t.first.map ColV.c := List.take_of_length_le (by simp)
  have t2 : (t.chg.map Chg.c).take t.chg.length = t.chg.map Chg.c := List.take_of_length_le (by simp)
  have t3 : (roL (n + 2 + 11) t.rows).take t.rows.length = roL (n + 2 + 11) t.rows := List.take_of_length_le (by rw [roL_len]; exact Nat.le_refl _)
  have t4 : (conds.map CondV.c).take conds.length = conds.map CondV.c := List.take_of_length_le (by simp)
  have rl := roL_len (n + 2 + 11) t.rows
  simp only [c_q0, hdS, tlS, nthS, go_sem, s1, s2, g0, e1, e2, e3, q1, q2, q3, t1, t2, t3, t4, rl, hns, rowsSl_int, List.length_map, Nat.le_refl, if_true, ite_self]
  refine ⟨_, _, _, n + 2 + 11 + (t.rows.length + 1) + 1, rfl, by omega, s1, s2, ?_, rfl, ?_, by omega, by omega⟩
  · rw [upd_apply, if_neg (by omega), upd_apply, if_neg (by omega), k1 0 (by omega), g0]
  · rw [upd_apply, if_pos rfl]
end Go.Vm.T

/- The law of AskIds: what is handed to the program. -/
namespace Go.Vm.T
open Go.Proofs
variable [Pr2]
structure Ai1 (t : Tab) (conds : List CondV) (ids : List Int) (s : Nat → A) (G : Hp) (n w : Nat) : Prop where
  s1 : s 1 = .lit t_laws_Cond (conds.map CondV.c)
  s2 : s 2 = .ptr 0 0 0
  s6 : s 6 = .ref t_int w 0 ids.length ids.length false
  g0 : G 0 = some ⟨t_laws_Table, [tabL t], true, true⟩
  gw : G w = some ⟨t_int, ids.map intC, true, false⟩
  w0 : 0 < w
  wn : w < n
structure Ai2 (t : Tab) (conds : List CondV) (ids : List Int) (s : Nat → A) (G : Hp) (n w p a b c : Nat) : Prop extends Ai1 t conds ids s G n w where
  s7 : s 7 = .ptr p 0 0
  gp : G p = some ⟨t_impl_Table, [refsT a b c t], true, true⟩
  H : TabH G a b c t
  wa : w < a
  ab : a < b
  bc : b < c
  cp : c + t.rows.length < p
  pn : p < n
theorem ai_7 {D : Nat} (hD : 12 ≤ D) (t : Tab) (hf : FitT t) (hm : MidT t) (conds : List CondV) (ids : List Int) (s : Nat → A) (G : Hp) (n w : Nat) (I : Ai1 t conds ids s G n w) :
    ∃ s' G' n' p a b c, exec ⟨den pr D, dcl pr D⟩ (hdS (nthS 7 c_q0.code)) ⟨s, G, n, 0⟩ = some (.norm ⟨s', G', n', 0⟩) ∧ Ai2 t conds ids s' G' n' w p a b c := by
  obtain ⟨F, hF⟩ := toTab_fun (show 5 ≤ D by omega) t hf hm
  obtain ⟨e1, H1, k1⟩ := hF G (n + 4)
  obtain ⟨s1, s2, s6, g0, gw, w0, wn⟩ := I
  have f13 : (15 + (t.rows.length + 1) = 13) = False := eq_false (by omega)
  have f14 : (15 + (t.rows.length + 1) = 14) = False := eq_false (by omega)
  simp only [c_q0, hdS, tlS, nthS, go_sem, s1, s2, g0, e1, f13, f14, List.length_map, Nat.le_refl, if_true, ite_self, Nat.add_assoc, Nat.add_left_cancel_iff, Nat.left_eq_add, Nat.add_eq_left, lt_self, le_self]
  have hlow : ∀ x, x < n + 4 → ∀ (X Y Z U V : Option Blk), upd (upd (upd (upd (upd (F G (n + 4)) (n + (15 + (t.rows.length + 2))) X) (n + (15 + (t.rows.length + 3))) Y) (n + (15 + (t.rows.length + 4))) Z) (n + (15 + (t.rows.length + 1))) U) (n + (15 + (t.rows.length + 1))) V x = G x := fun x hx X Y Z U V => by
    rw [upd_apply, if_neg (by omega), upd_apply, if_neg (by omega), upd_apply, if_neg (by omega), upd_apply, if_neg (by omega), upd_apply, if_neg (by omega)]
    exact k1 x hx
  have H2 := ((((H1.upd (k := n + (15 + (t.rows.length + 2))) (x := some ⟨t_impl_Col, [], true, false⟩) (by omega) (by omega) (by omega)).upd (k := n + (15 + (t.rows.length + 3))) (x := some ⟨t_impl_Change, [], true, false⟩) (by omega) (by omega) (by omega)).upd (k := n + (15 + (t.rows.length + 4))) (x := some ⟨t_impl_Row, [], true, false⟩) (by omega) (by omega) (by omega)).upd (k := n + (15 + (t.rows.length + 1))) (x := some ⟨t_impl_Table, [[.ref t_impl_Col (n + (15 + (t.rows.length + 2))) 0 0 0 false, .ref t_impl_Change (n + (15 + (t.rows.length + 3))) 0 0 0 false, .ref t_impl_Row (n + (15 + (t.rows.length + 4))) 0 0 0 false, .n 0]], true, true⟩) (by omega) (by omega) (by omega)).upd (k := n + (15 + (t.rows.length + 1))) (x := some ⟨t_impl_Table, [refsT (n + 13) (n + 14) (n + 15) t], true, true⟩) (by omega) (by omega) (by omega)
  refine ⟨_, _, _, n + (15 + (t.rows.length + 1)), n + 13, n + 14, n + 15, rfl, ⟨⟨s1, s2, s6, ?_, ?_, w0, ?_⟩, rfl, ?_, ?_, by omega, by omega, by omega, by omega, by omega⟩⟩
  · rw [hlow 0 (by omega)]; exact g0
  · rw [hlow w (by omega)]; exact gw
  · omega
  · rw [upd_apply, if_pos rfl]
  · exact H2
end Go.Vm.T

/- The law of AskIds: what the program answers. -/
namespace Go.Vm.T
open Go.Proofs
variable [Pr2]
structure Ai3 (t : Tab) (conds : List CondV) (ids : List Int) (s : Nat → A) (G : Hp) (n w p a b c v : Nat) : Prop extends Ai2 t conds ids s G n w p a b c where
  s8 : s 8 = .ref t_impl_Cond v 0 conds.length conds.length false
  gv : G v = some ⟨t_impl_Cond, conds.map CondV.c, true, false⟩
  pv : p < v
  vn : v < n
structure Ai4 (t : Tab) (conds : List CondV) (ids : List Int) (s : Nat → A) (G : Hp) (n w p a b c v y : Nat) : Prop extends Ai3 t conds ids s G n w p a b c v where
  s9 : s 9 = .ref t_int y 0 ids.length ids.length false
  gy : G y = some ⟨t_int, ids.map intC, true, false⟩
  vy : v < y
  yn : y < n
theorem ai_8 {D : Nat} (hD : 12 ≤ D) (t : Tab) (conds : List CondV) (hl : conds.length ≤ big) (hz : ∀ c ∈ conds, szD c) (ids : List Int) (s : Nat → A) (G : Hp) (n w p a b c : Nat) (I : Ai2 t conds ids s G n w p a b c) :
    ∃ s' G' n', exec ⟨den pr D, dcl pr D⟩ (hdS (nthS 8 c_q0.code)) ⟨s, G, n, 0⟩ = some (.norm ⟨s', G', n', 0⟩) ∧ Ai3 t conds ids s' G' n' w p a b c n := by
  obtain ⟨⟨s1, s2, s6, g0, gw, w0, wn⟩, s7, gp, H, wa, ab, bc, cp, pn⟩ := I
  have e2 := d_toCondS (show 3 ≤ D by omega) conds hl hz
  simp only [c_q0, hdS, tlS, nthS, go_sem, s1, s2, g0, e2, List.length_map, Nat.le_refl, if_true, ite_self]
  refine ⟨_, _, _, rfl, ⟨⟨⟨s1, s2, s6, ?_, ?_, w0, by omega⟩, s7, ?_, H.upd (by omega) (by omega) (by omega), wa, ab, bc, cp, by omega⟩, rfl, ?_, pn, by omega⟩⟩
  · rw [upd_apply, if_neg (by omega)]; exact g0
  · rw [upd_apply, if_neg (by omega)]; exact gw
  · rw [upd_apply, if_neg (by omega)]; exact gp
  · rw [upd_apply, if_pos rfl]
theorem ai_9 {D : Nat} (hD : 12 ≤ D) (t : Tab) (hm : MidT t) (conds : List CondV) (hl : conds.length ≤ big) (hd : SmallD conds) (s : Nat → A) (G : Hp) (n w p a b c v : Nat) (I : Ai3 t conds (askIdsL t conds) s G n w p a b c v) :
    ∃ s' G' n', exec ⟨den pr D, dcl pr D⟩ (hdS (nthS 9 c_q0.code)) ⟨s, G, n, 0⟩ = some (.norm ⟨s', G', n', 0⟩) ∧ Ai4 t conds (askIdsL t conds) s' G' n' w p a b c v n := by
  obtain ⟨⟨⟨s1, s2, s6, g0, gw, w0, wn⟩, s7, gp, H, wa, ab, bc, cp, pn⟩, s8, gv, pv, vn⟩ := I
  have e3 := d_AskIds (show 10 ≤ D by omega) t hm.small conds hl hd
  obtain ⟨ns, hns⟩ := rowsCl H.rows
  have q1 := H.cols
  have q2 := H.chgs
  have q3 := H.rows.top
  have t1 : (t.first.map ColV.c).take t.first.length = t.first.map ColV.c := List.take_of_length_le (by simp)
  have t2 : (t.chg.map Chg.c).take t.chg.length = t.chg.map Chg.c := List.take_of_length_le (by simp)
  have t3 : (roL c t.rows).take t.rows.length = roL c t.rows := List.take_of_length_le (by rw [roL_len]; exact Nat.le_refl _)
  have t4 : (conds.map CondV.c).take conds.length = conds.map CondV.c := List.take_of_length_le (by simp)
  have rl := roL_len c t.rows
  simp only [c_q0, hdS, tlS, nthS, go_sem, s7, gp, s8, gv, e3, q1, q2, q3, t1, t2, t3, t4, rl, hns, rowsSl_int, List.length_map, Nat.le_refl, if_true, ite_self]
  refine ⟨_, _, _, rfl, ⟨⟨⟨⟨s1, s2, s6, ?_, ?_, w0, by omega⟩, s7, ?_, H.upd (by omega) (by omega) (by omega), wa, ab, bc, cp, by omega⟩, s8, ?_, pv, by omega⟩, rfl, ?_, vn, by omega⟩⟩
  · rw [upd_apply, if_neg (by omega)]; exact g0
  · rw [upd_apply, if_neg (by omega)]; exact gw
  · rw [upd_apply, if_neg (by omega)]; exact gp
  · rw [upd_apply, if_neg (by omega)]; exact gv
  · rw [upd_apply, if_pos rfl]
theorem ai_10 {D : Nat} (hD : 12 ≤ D) (t : Tab) (conds : List CondV) (ids : List Int) (hi : ids.length ≤ big) (s : Nat → A) (G : Hp) (n w p a b c v y : Nat) (I : Ai4 t conds ids s G n w p a b c v y) :
    ∃ s' G' n', exec ⟨den pr D, dcl pr D⟩ (hdS (nthS 10 c_q0.code)) ⟨s, G, n, 0⟩ = some (.norm ⟨s', G', n', 0⟩) ∧ Ai4 t conds ids s' G' n' w p a b c v y := by
  obtain ⟨⟨⟨⟨s1, s2, s6, g0, gw, w0, wn⟩, s7, gp, H, wa, ab, bc, cp, pn⟩, s8, gv, pv, vn⟩, s9, gy, vy, yn⟩ := I
  have e1 := d_eqIntS (show 1 ≤ D by omega) ids hi
  have t1 : (ids.map intC).take ids.length = ids.map intC := List.take_of_length_le (by simp)
  simp only [c_q0, hdS, tlS, nthS, go_sem, s6, gw, s9, gy, e1, t1, rowsSl_int, List.length_map, Nat.le_refl, if_true, ite_self]
  exact ⟨_, _, _, rfl, ⟨⟨⟨⟨s1, s2, s6, g0, gw, w0, wn⟩, s7, gp, H, wa, ab, bc, cp, pn⟩, s8, gv, pv, vn⟩, s9, gy, vy, yn⟩⟩
end Go.Vm.T

/- The law of AskIds: the arguments stay. -/
namespace Go.Vm.T
open Go.Proofs
variable [Pr2]
theorem TabH.low {h h' : Hp} {a b c n : Nat} {t : Tab} (H : TabH h a b c t) (k : ∀ x, x < n → h' x = h x) (ab : a < b) (bc : b < c) (cn : c + t.rows.length < n) : TabH h' a b c t := by
  refine ⟨by rw [k a (by omega)]; exact H.cols, by rw [k b (by omega)]; exact H.chgs, by rw [k c (by omega)]; exact H.rows.top, fun j r hr => ?_⟩
  have hj := (List.getElem?_eq_some_iff.1 hr).1
  rw [k _ (by omega)]
  exact H.rows.vals j r hr
theorem ai_11 {D : Nat} (hD : 12 ≤ D) (t : Tab) (hf : FitT t) (hm : MidT t) (conds : List CondV) (ids : List Int) (s : Nat → A) (G : Hp) (n w p a b c v y : Nat) (I : Ai4 t conds ids s G n w p a b c v y) :
    ∃ s' G' n', exec ⟨den pr D, dcl pr D⟩ (hdS (nthS 11 c_q0.code)) ⟨s, G, n, 0⟩ = some (.norm ⟨s', G', n', 0⟩) ∧ Ai4 t conds ids s' G' n' w p a b c v y := by
  obtain ⟨F, hF⟩ := toTab_fun (show 5 ≤ D by omega) t hf hm
  obtain ⟨e1, H1, k1⟩ := hF G n
  obtain ⟨⟨⟨⟨s1, s2, s6, g0, gw, w0, wn⟩, s7, gp, H, wa, ab, bc, cp, pn⟩, s8, gv, pv, vn⟩, s9, gy, vy, yn⟩ := I
  have e2 := d_eqTable (show 5 ≤ D by omega) t hf hm
  have hk : keptBy [p] G (F G n) := fun x hx => by rw [List.mem_singleton.1 hx]; exact (k1 p pn).symm
  have e1' := chk_dc ⟨den pr D, dcl pr D⟩ [p] f_laws_toTable [.agg (tabL t)] G n e1 hk
  have H0 := H.low k1 ab bc (by omega)
  obtain ⟨ns, hns⟩ := rowsCl H0.rows
  obtain ⟨ns1, hns1⟩ := rowsCl H1.rows
  have q1 := H0.cols
  have q2 := H0.chgs
  have q3 := H0.rows.top
  have r1 := H1.cols
  have r2 := H1.chgs
  have r3 := H1.rows.top
  have t1 : (t.first.map ColV.c).take t.first.length = t.first.map ColV.c := List.take_of_length_le (by simp)
  have t2 : (t.chg.map Chg.c).take t.chg.length = t.chg.map Chg.c := List.take_of_length_le (by simp)
  have t3 : ∀ c, (roL c t.rows).take t.rows.length = roL c t.rows := fun c => List.take_of_length_le (by rw [roL_len]; exact Nat.le_refl _)
  have rl := fun c => roL_len c t.rows
  simp only [c_q0, hdS, tlS, nthS, go_sem, s2, s7, g0, gp, e1', e2, q1, q2, q3, r1, r2, r3, t1, t2, t3, rl, hns, hns1, List.length_map, Nat.le_refl, if_true, ite_self]
  refine ⟨_, _, _, rfl, ⟨⟨⟨⟨s1, s2, s6, ?_, ?_, w0, by omega⟩, s7, ?_, H0, wa, ab, bc, cp, by omega⟩, s8, ?_, pv, by omega⟩, s9, ?_, vy, by omega⟩⟩
  · rw [k1 0 (by omega)]; exact g0
  · rw [k1 w wn]; exact gw
  · rw [k1 p pn]; exact gp
  · rw [k1 v vn]; exact gv
  · rw [k1 y yn]; exact gy
theorem ai_12 {D : Nat} (hD : 12 ≤ D) (t : Tab) (conds : List CondV) (hl : conds.length ≤ big) (hz : ∀ c ∈ conds, szD c) (ids : List Int) (s : Nat → A) (G : Hp) (n w p a b c v y : Nat) (I : Ai4 t conds ids s G n w p a b c v y) :
    ∃ s' G' n', exec ⟨den pr D, dcl pr D⟩ (hdS (nthS 12 c_q0.code)) ⟨s, G, n, 0⟩ = some (.norm ⟨s', G', n', 0⟩) ∧ Ai4 t conds ids s' G' n' w p a b c v y := by
  obtain ⟨⟨⟨⟨s1, s2, s6, g0, gw, w0, wn⟩, s7, gp, H, wa, ab, bc, cp, pn⟩, s8, gv, pv, vn⟩, s9, gy, vy, yn⟩ := I
  have e1 := d_toCondS (show 3 ≤ D by omega) conds hl hz
  have e2 := d_eqCondS (show 3 ≤ D by omega) conds hl hz
  have t4 : (conds.map CondV.c).take conds.length = conds.map CondV.c := List.take_of_length_le (by simp)
  have rc : rowsSl (conds.map CondV.c) = false := rowsSl_map _ (fun _ => rfl) conds
  have fv : (v = n) = False := eq_false (by omega)
  simp only [c_q0, hdS, tlS, nthS, go_sem, s1, s8, gv, e1, e2, t4, rc, fv, List.length_map, Nat.le_refl, if_true, if_false, ite_self]
  refine ⟨_, _, _, rfl, ⟨⟨⟨⟨s1, s2, s6, ?_, ?_, w0, by omega⟩, s7, ?_, H.upd (by omega) (by omega) (by omega), wa, ab, bc, cp, by omega⟩, s8, ?_, pv, by omega⟩, s9, ?_, vy, by omega⟩⟩
  · rw [upd_apply, if_neg (by omega)]; exact g0
  · rw [upd_apply, if_neg (by omega)]; exact gw
  · rw [upd_apply, if_neg (by omega)]; exact gp
  · rw [upd_apply, if_neg (by omega)]; exact gv
  · rw [upd_apply, if_neg (by omega)]; exact gy
end Go.Vm.T

/- The law of AskIds: marks. -/
namespace Go.Vm.T
open Go.Proofs
variable [Pr2]
structure Ai5 (t : Tab) (conds : List CondV) (ids : List Int) (s : Nat → A) (G : Hp) (n w v y : Nat) (k : Int) : Prop where
  s1 : s 1 = .lit t_laws_Cond (conds.map CondV.c)
  s2 : s 2 = .ptr 0 0 0
  s6 : s 6 = .ref t_int w 0 ids.length ids.length false
  g0 : G 0 = some ⟨t_laws_Table, [tabL t], true, true⟩
  gw : G w = some ⟨t_int, ids.map intC, true, false⟩
  w0 : 0 < w
  wv : w < v
  s8 : s 8 = .ref t_impl_Cond v 0 conds.length conds.length false
  gv : G v = some ⟨t_impl_Cond, conds.map CondV.c, true, false⟩
  s9 : s 9 = .ref t_int y 0 ids.length ids.length false
  gy : G y = some ⟨t_int, ids.map intC, true, false⟩
  vy : v < y
  yn : y < n
  s10 : s 10 = .n k
  k0 : 0 ≤ k
  k1 : k ≤ 2 ^ 28
theorem ai_13 {D : Nat} (hD : 12 ≤ D) (t : Tab) (hm : MidT t) (S : Sums t) (conds : List CondV) (ids : List Int) (s : Nat → A) (G : Hp) (n w p a b c v y : Nat) (I : Ai4 t conds ids s G n w p a b c v y) :
    ∃ s' G' n' k, exec ⟨den pr D, dcl pr D⟩ (nthS 13 c_q0.code) ⟨s, G, n, 0⟩ = exec ⟨den pr D, dcl pr D⟩ (nthS 15 c_q0.code) ⟨s', G', n', 0⟩ ∧ Ai5 t conds ids s' G' n' w v y k := by
  obtain ⟨⟨⟨⟨s1, s2, s6, g0, gw, w0, wn⟩, s7, gp, H, wa, ab, bc, cp, pn⟩, s8, gv, pv, vn⟩, s9, gy, vy, yn⟩ := I
  obtain ⟨k, G', e1, k0, k1, hk⟩ := v_markTable (show 4 ≤ D by omega) t 1 ⟨by omega, by omega⟩ S hm.small.rlen (fun r hr => (hm.rows r hr).1) G n a b c t.first.length t.chg.length t.rows.length false false true H (by omega) (by omega) (by omega) (by omega) (by omega) (by omega)
  have h1 : exec ⟨den pr D, dcl pr D⟩ (hdS (nthS 13 c_q0.code)) ⟨s, G, n, 0⟩ = some (.norm ⟨upd s 10 (.n 1), G, n, 0⟩) := by
    simp only [c_q0, hdS, tlS, nthS, go_sem]
  have h2 : ∃ s', exec ⟨den pr D, dcl pr D⟩ (hdS (nthS 14 c_q0.code)) ⟨upd s 10 (.n 1), G, n, 0⟩ = some (.norm ⟨s', G', n + 1, 0⟩) ∧ s' 1 = s 1 ∧ s' 2 = s 2 ∧ s' 6 = s 6 ∧ s' 8 = s 8 ∧ s' 9 = s 9 ∧ s' 10 = .n k := by
    simp only [c_q0, hdS, tlS, nthS, go_sem, s7, gp, e1]
    exact ⟨_, rfl, rfl, rfl, rfl, rfl, rfl, rfl⟩
  obtain ⟨s', h2, r1, r2, r6, r8, r9, r10⟩ := h2
  refine ⟨s', G', n + 1, k, ?_, ⟨r1.trans s1, r2.trans s2, r6.trans s6, ?_, ?_, w0, by omega, r8.trans s8, ?_, r9.trans s9, ?_, vy, by omega, r10, k0, k1⟩⟩
  · rw [st_ex 13 h1 rfl, st_ex 14 h2 rfl]
  · rw [hk 0 (by omega) (by omega) (by omega) (by omega)]; exact g0
  · rw [hk w (by omega) (by omega) (by omega) (by omega)]; exact gw
  · rw [hk v (by omega) (by omega) (by omega) (by omega)]; exact gv
  · rw [hk y (by omega) (by omega) (by omega) (by omega)]; exact gy
structure Ai6 (t : Tab) (conds : List CondV) (ids : List Int) (s : Nat → A) (G : Hp) (n w y : Nat) : Prop where
  s1 : s 1 = .lit t_laws_Cond (conds.map CondV.c)
  s2 : s 2 = .ptr 0 0 0
  s6 : s 6 = .ref t_int w 0 ids.length ids.length false
  g0 : G 0 = some ⟨t_laws_Table, [tabL t], true, true⟩
  gw : G w = some ⟨t_int, ids.map intC, true, false⟩
  w0 : 0 < w
  wy : w < y
  s9 : s 9 = .ref t_int y 0 ids.length ids.length false
  gy : G y = some ⟨t_int, marks intC 1 1 ids.length, true, false⟩
  yn : y < n
  s11 : s 11 = .n (1 + (ids.length : Int))
theorem ai_15 {D : Nat} (hD : 12 ≤ D) (t : Tab) (conds : List CondV) (hl : conds.length ≤ 2 ^ 20) (ids : List Int) (hi : ids.length ≤ big) (s : Nat → A) (G : Hp) (n w v y : Nat) (k : Int) (I : Ai5 t conds ids s G n w v y k) :
    ∃ s' G' n', exec ⟨den pr D, dcl pr D⟩ (nthS 15 c_q0.code) ⟨s, G, n, 0⟩ = exec ⟨den pr D, dcl pr D⟩ (nthS 19 c_q0.code) ⟨s', G', n', 0⟩ ∧ Ai6 t conds ids s' G' n' w y := by
  obtain ⟨s1, s2, s6, g0, gw, w0, wv, s8, gv, s9, gy, vy, yn, s10, k0, k1⟩ := I
  have e1 := d_markCondS (show 2 ≤ D by omega) conds k ⟨k0, by omega⟩ (by unfold big; omega) G n v conds.length false (by omega) gv
  obtain ⟨G1, hG1⟩ : ∃ G1, G1 = upd (Go.Vm.low n G) v (some ⟨t_impl_Cond, marks mkCond 5 k conds.length, true, false⟩) := ⟨_, rfl⟩
  rw [← hG1] at e1
  have hk1 : ∀ x, x < n → ¬ x = v → G1 x = G x := fun x hx hv => by rw [hG1, upd_apply, if_neg hv, low_at hx]
  have gy1 := (hk1 y yn (by omega)).trans gy
  have gw1 := (hk1 w (by omega) (by omega)).trans gw
  have e2 := d_eqIntS (show 1 ≤ D by omega) ids hi
  have e3 := d_markIntS (show 1 ≤ D by omega) ids 1 ⟨by omega, by omega⟩ hi G1 n y ids.length false yn gy1
  have t1 : (ids.map intC).take ids.length = ids.map intC := List.take_of_length_le (by simp)
  have hneg : (k + ((5 * conds.length : Nat) : Int) < 0) = False := eq_false (by omega)
  have h1 : ∃ s', exec ⟨den pr D, dcl pr D⟩ (hdS (nthS 15 c_q0.code)) ⟨s, G, n, 0⟩ = some (.norm ⟨s', G1, n, 0⟩) ∧ s' 1 = s 1 ∧ s' 2 = s 2 ∧ s' 6 = s 6 ∧ s' 9 = s 9 ∧ s' 10 = .n (k + ((5 * conds.length : Nat) : Int)) := by
    simp only [c_q0, hdS, tlS, nthS, go_sem, s8, s10, e1]
    exact ⟨_, rfl, rfl, rfl, rfl, rfl, rfl⟩
  obtain ⟨s', h1, r1, r2, r6, r9, r10⟩ := h1
  rw [s1] at r1; rw [s2] at r2; rw [s6] at r6; rw [s9] at r9
  have h2 : ∃ s'', exec ⟨den pr D, dcl pr D⟩ (hdS (nthS 16 c_q0.code)) ⟨s', G1, n, 0⟩ = some (.norm ⟨s'', G1, n, 0⟩) ∧ s'' 1 = s' 1 ∧ s'' 2 = s' 2 ∧ s'' 6 = s' 6 ∧ s'' 9 = s' 9 := by
    simp only [c_q0, hdS, tlS, nthS, go_sem, r6, r9, r10, gy1, gw1, e2, t1, hneg, rowsSl_int, List.length_map, Nat.le_refl, if_true, ite_self]
    exact ⟨_, rfl, rfl, rfl, r6, r9⟩
  obtain ⟨s2', h2, p1, p2, p6, p9⟩ := h2
  rw [r1] at p1; rw [r2] at p2; rw [r6] at p6; rw [r9] at p9
  have h3 : exec ⟨den pr D, dcl pr D⟩ (hdS (nthS 17 c_q0.code)) ⟨s2', G1, n, 0⟩ = some (.norm ⟨upd s2' 11 (.n 1), G1, n, 0⟩) := by
    simp only [c_q0, hdS, tlS, nthS, go_sem]
  have h4 : ∃ s3, exec ⟨den pr D, dcl pr D⟩ (hdS (nthS 18 c_q0.code)) ⟨upd s2' 11 (.n 1), G1, n, 0⟩ = some (.norm ⟨s3, upd (Go.Vm.low n G1) y (some ⟨t_int, marks intC 1 1 ids.length, true, false⟩), n, 0⟩) ∧ s3 1 = s2' 1 ∧ s3 2 = s2' 2 ∧ s3 6 = s2' 6 ∧ s3 9 = s2' 9 ∧ s3 11 = .n (1 + (ids.length : Int)) := by
    simp only [c_q0, hdS, tlS, nthS, go_sem, p9, e3]
    exact ⟨_, rfl, rfl, rfl, rfl, p9, rfl⟩
  obtain ⟨s3, h4, z1, z2, z6, z9, z11⟩ := h4
  refine ⟨s3, upd (Go.Vm.low n G1) y (some ⟨t_int, marks intC 1 1 ids.length, true, false⟩), n, ?_, ⟨z1.trans p1, z2.trans p2, z6.trans p6, ?_, ?_, w0, by omega, z9.trans p9, ?_, yn, z11⟩⟩
  · rw [st_ex 15 h1 rfl, st_ex 16 h2 rfl, st_ex 17 h3 rfl, st_ex 18 h4 rfl]
  · rw [upd_apply, if_neg (by omega), low_at (by omega), hk1 0 (by omega) (by omega)]; exact g0
  · rw [upd_apply, if_neg (by omega), low_at (by omega)]; exact gw1
  · rw [upd_apply, if_pos rfl]
end Go.Vm.T

/- The law of AskIds: whole. -/
namespace Go.Vm.T
open Go.Proofs
variable [Pr2]
theorem ai_19 {D : Nat} (hD : 12 ≤ D) (t : Tab) (conds : List CondV) (ids : List Int) (hi : ids.length ≤ big) (s : Nat → A) (G : Hp) (n w y : Nat) (I : Ai6 t conds ids s G n w y) :
    ∃ s', exec ⟨den pr D, dcl pr D⟩ (nthS 19 c_q0.code) ⟨s, G, n, 0⟩ = exec ⟨den pr D, dcl pr D⟩ (nthS 23 c_q0.code) ⟨s', G, n, 0⟩ ∧ Ai6 t conds ids s' G n w y := by
  obtain ⟨s1, s2, s6, g0, gw, w0, wy, s9, gy, yn, s11⟩ := I
  have e1 := d_heldIntS (show 1 ≤ D by omega) ids.length hi
  have ml := marks_length intC 1 1 ids.length
  have mt : (marks intC 1 1 ids.length).take ids.length = marks intC 1 1 ids.length := List.take_of_length_le (by rw [ml]; exact Nat.le_refl _)
  have rm : rowsSl (marks intC 1 1 ids.length) = false := rowsSl_marks _ (fun _ => rfl) _ _ _
  have hneg : (1 + (ids.length : Int) < 0) = False := eq_false (by omega)
  have h1 : exec ⟨den pr D, dcl pr D⟩ (hdS (nthS 19 c_q0.code)) ⟨s, G, n, 0⟩ = some (.norm ⟨upd s 12 (.n 1), G, n, 0⟩) := by
    simp only [c_q0, hdS, tlS, nthS, go_sem]
  have h2 : ∃ s', exec ⟨den pr D, dcl pr D⟩ (hdS (nthS 20 c_q0.code)) ⟨upd s 12 (.n 1), G, n, 0⟩ = some (.norm ⟨s', G, n, 0⟩) ∧ s' 1 = s 1 ∧ s' 2 = s 2 ∧ s' 6 = s 6 ∧ s' 9 = s 9 ∧ s' 11 = s 11 ∧ s' 12 = .n (1 + (ids.length : Int)) := by
    simp only [c_q0, hdS, tlS, nthS, go_sem, s9, gy, e1, ml, mt, rm, Nat.le_refl, if_true, ite_self]
    exact ⟨_, rfl, rfl, rfl, rfl, s9, rfl, rfl⟩
  obtain ⟨s', h2, r1, r2, r6, r9, r11, r12⟩ := h2
  rw [s1] at r1; rw [s2] at r2; rw [s6] at r6; rw [s9] at r9; rw [s11] at r11
  have h3 : ∃ s'', exec ⟨den pr D, dcl pr D⟩ (hdS (nthS 21 c_q0.code)) ⟨s', G, n, 0⟩ = some (.norm ⟨s'', G, n, 0⟩) ∧ s'' 1 = s' 1 ∧ s'' 2 = s' 2 ∧ s'' 6 = s' 6 ∧ s'' 9 = s' 9 ∧ s'' 11 = s' 11 ∧ s'' 12 = s' 12 := by
    simp only [c_q0, hdS, tlS, nthS, go_sem, r12, hneg]
    exact ⟨_, rfl, rfl, rfl, rfl, rfl, rfl, r12⟩
  obtain ⟨s'', h3, p1, p2, p6, p9, p11, p12⟩ := h3
  rw [r1] at p1; rw [r2] at p2; rw [r6] at p6; rw [r9] at p9; rw [r11] at p11; rw [r12] at p12
  have h4 : ∃ s3, exec ⟨den pr D, dcl pr D⟩ (hdS (nthS 22 c_q0.code)) ⟨s'', G, n, 0⟩ = some (.norm ⟨s3, G, n, 0⟩) ∧ s3 1 = s'' 1 ∧ s3 2 = s'' 2 ∧ s3 6 = s'' 6 ∧ s3 9 = s'' 9 ∧ s3 11 = s'' 11 := by
    simp only [c_q0, hdS, tlS, nthS, go_sem, p11, p12]
    exact ⟨_, rfl, rfl, rfl, rfl, rfl, p11⟩
  obtain ⟨s3, h4, z1, z2, z6, z9, z11⟩ := h4
  refine ⟨s3, ?_, ⟨z1.trans p1, z2.trans p2, z6.trans p6, g0, gw, w0, wy, z9.trans p9, gy, yn, z11.trans p11⟩⟩
  rw [st_ex 19 h1 rfl, st_ex 20 h2 rfl, st_ex 21 h3 rfl, st_ex 22 h4 rfl]
theorem ai_25 {D : Nat} (hD : 12 ≤ D) (t : Tab) (conds : List CondV) (ids : List Int) (hi : ids.length ≤ big) (s : Nat → A) (G : Hp) (n w y : Nat) (I : Ai6 t conds ids s G n w y) :
    ∃ s', exec ⟨den pr D, dcl pr D⟩ (nthS 25 c_q0.code) ⟨s, G, n, 0⟩ = exec ⟨den pr D, dcl pr D⟩ (nthS 29 c_q0.code) ⟨s', G, n, 0⟩ ∧ Ai6 t conds ids s' G n w y := by
  obtain ⟨s1, s2, s6, g0, gw, w0, wy, s9, gy, yn, s11⟩ := I
  have e1 := d_heldIntS (show 1 ≤ D by omega) ids.length hi
  have ml := marks_length intC 1 1 ids.length
  have mt : (marks intC 1 1 ids.length).take ids.length = marks intC 1 1 ids.length := List.take_of_length_le (by rw [ml]; exact Nat.le_refl _)
  have rm : rowsSl (marks intC 1 1 ids.length) = false := rowsSl_marks _ (fun _ => rfl) _ _ _
  have hneg : (1 + (ids.length : Int) < 0) = False := eq_false (by omega)
  have h1 : exec ⟨den pr D, dcl pr D⟩ (hdS (nthS 25 c_q0.code)) ⟨s, G, n, 0⟩ = some (.norm ⟨upd s 12 (.n 1), G, n, 0⟩) := by
    simp only [c_q0, hdS, tlS, nthS, go_sem]
  have h2 : ∃ s', exec ⟨den pr D, dcl pr D⟩ (hdS (nthS 26 c_q0.code)) ⟨upd s 12 (.n 1), G, n, 0⟩ = some (.norm ⟨s', G, n, 0⟩) ∧ s' 1 = s 1 ∧ s' 2 = s 2 ∧ s' 6 = s 6 ∧ s' 9 = s 9 ∧ s' 11 = s 11 ∧ s' 12 = .n (1 + (ids.length : Int)) := by
    simp only [c_q0, hdS, tlS, nthS, go_sem, s9, gy, e1, ml, mt, rm, Nat.le_refl, if_true, ite_self]
    exact ⟨_, rfl, rfl, rfl, rfl, s9, rfl, rfl⟩
  obtain ⟨s', h2, r1, r2, r6, r9, r11, r12⟩ := h2
  rw [s1] at r1; rw [s2] at r2; rw [s6] at r6; rw [s9] at r9; rw [s11] at r11
  have h3 : ∃ s'', exec ⟨den pr D, dcl pr D⟩ (hdS (nthS 27 c_q0.code)) ⟨s', G, n, 0⟩ = some (.norm ⟨s'', G, n, 0⟩) ∧ s'' 1 = s' 1 ∧ s'' 2 = s' 2 ∧ s'' 6 = s' 6 ∧ s'' 9 = s' 9 ∧ s'' 11 = s' 11 ∧ s'' 12 = s' 12 := by
    simp only [c_q0, hdS, tlS, nthS, go_sem, r12, hneg]
    exact ⟨_, rfl, rfl, rfl, rfl, rfl, rfl, r12⟩
  obtain ⟨s'', h3, p1, p2, p6, p9, p11, p12⟩ := h3
  rw [r1] at p1; rw [r2] at p2; rw [r6] at p6; rw [r9] at p9; rw [r11] at p11; rw [r12] at p12
  have h4 : ∃ s3, exec ⟨den pr D, dcl pr D⟩ (hdS (nthS 28 c_q0.code)) ⟨s'', G, n, 0⟩ = some (.norm ⟨s3, G, n, 0⟩) ∧ s3 1 = s'' 1 ∧ s3 2 = s'' 2 ∧ s3 6 = s'' 6 ∧ s3 9 = s'' 9 ∧ s3 11 = s'' 11 := by
    simp only [c_q0, hdS, tlS, nthS, go_sem, p11, p12]
    exact ⟨_, rfl, rfl, rfl, rfl, rfl, p11⟩
  obtain ⟨s3, h4, z1, z2, z6, z9, z11⟩ := h4
  refine ⟨s3, ?_, ⟨z1.trans p1, z2.trans p2, z6.trans p6, g0, gw, w0, wy, z9.trans p9, gy, yn, z11.trans p11⟩⟩
  rw [st_ex 25 h1 rfl, st_ex 26 h2 rfl, st_ex 27 h3 rfl, st_ex 28 h4 rfl]
theorem ai_23 {D : Nat} (hD : 12 ≤ D) (t : Tab) (hf : FitT t) (hm : MidT t) (conds : List CondV) (hl : conds.length ≤ big) (hd : SmallD conds) (hz : ∀ c ∈ conds, szD c) (hi : (askIdsL t conds).length ≤ big) (s : Nat → A) (G : Hp) (n w y : Nat) (I : Ai6 t conds (askIdsL t conds) s G n w y) :
    ∃ s' G' n', exec ⟨den pr D, dcl pr D⟩ (nthS 23 c_q0.code) ⟨s, G, n, 0⟩ = exec ⟨den pr D, dcl pr D⟩ (nthS 25 c_q0.code) ⟨s', G', n', 0⟩ ∧ Ai6 t conds (askIdsL t conds) s' G' n' w y := by
  obtain ⟨s1, s2, s6, g0, gw, w0, wy, s9, gy, yn, s11⟩ := I
  obtain ⟨F, hF⟩ := toTab_fun (show 5 ≤ D by omega) t hf hm
  obtain ⟨e1, H1, k1⟩ := hF G (n + 2)
  have e2 := d_toCondS (show 3 ≤ D by omega) conds hl hz
  have e3 := d_AskIds (show 10 ≤ D by omega) t hm.small conds hl hd
  have e4 := d_eqIntS (show 1 ≤ D by omega) (askIdsL t conds) hi
  have H2 := H1.upd (k := n + 2 + 11 + (t.rows.length + 1)) (x := some ⟨t_impl_Cond, conds.map CondV.c, true, false⟩) (by omega) (by omega) (by omega)
  obtain ⟨ns, hns⟩ := rowsCl H2.rows
  have q1 := H2.cols
  have q2 := H2.chgs
  have q3 := H2.rows.top
  have t1 : (t.first.map ColV.c).take t.first.length = t.first.map ColV.c := List.take_of_length_le (by simp)
  have t2 : (t.chg.map Chg.c).take t.chg.length = t.chg.map Chg.c := List.take_of_length_le (by simp)
  have t3 : (roL (n + 2 + 11) t.rows).take t.rows.length = roL (n + 2 + 11) t.rows := List.take_of_length_le (by rw [roL_len]; exact Nat.le_refl _)
  have t4 : (conds.map CondV.c).take conds.length = conds.map CondV.c := List.take_of_length_le (by simp)
  have rl := roL_len (n + 2 + 11) t.rows
  generalize askIdsL t conds = ids at *
  have t5 : (ids.map intC).take ids.length = ids.map intC := List.take_of_length_le (by simp)
  obtain ⟨z, hz'⟩ : ∃ z, z = n + 2 + 11 + (t.rows.length + 1) + 1 := ⟨_, rfl⟩
  have h1 : ∃ s', exec ⟨den pr D, dcl pr D⟩ (hdS (nthS 23 c_q0.code)) ⟨s, G, n, 0⟩ = some (.norm ⟨s', upd (upd (F G (n + 2)) (n + 2 + 11 + (t.rows.length + 1)) (some ⟨t_impl_Cond, conds.map CondV.c, true, false⟩)) (n + 2 + 11 + (t.rows.length + 1) + 1) (some ⟨t_int, ids.map intC, true, false⟩), n + 2 + 11 + (t.rows.length + 1) + 2, 0⟩) ∧ s' 1 = .lit t_laws_Cond (conds.map CondV.c) ∧ s' 2 = .ptr 0 0 0 ∧ s' 6 = .ref t_int w 0 ids.length ids.length false ∧ s' 9 = .ref t_int y 0 ids.length ids.length false ∧ s' 11 = .n (1 + (ids.length : Int)) ∧ s' 13 = .ref t_int (n + 2 + 11 + (t.rows.length + 1) + 1) 0 ids.length ids.length false := by
    simp only [c_q0, hdS, tlS, nthS, go_sem, s1, s2, g0, e1, e2, e3, q1, q2, q3, t1, t2, t3, t4, rl, hns, rowsSl_int, List.length_map, Nat.le_refl, if_true, ite_self]
    exact ⟨_, rfl, s1, s2, s6, s9, s11, rfl⟩
  rw [← hz'] at h1
  have glow : ∀ x, x < n → upd (upd (F G (n + 2)) (n + 2 + 11 + (t.rows.length + 1)) (some ⟨t_impl_Cond, conds.map CondV.c, true, false⟩)) z (some ⟨t_int, ids.map intC, true, false⟩) x = G x := fun x hx => by
    rw [upd_apply, if_neg (by omega), upd_apply, if_neg (by omega)]; exact k1 x (by omega)
  have gz : upd (upd (F G (n + 2)) (n + 2 + 11 + (t.rows.length + 1)) (some ⟨t_impl_Cond, conds.map CondV.c, true, false⟩)) z (some ⟨t_int, ids.map intC, true, false⟩) z = some ⟨t_int, ids.map intC, true, false⟩ := by rw [upd_apply, if_pos rfl]
  obtain ⟨s', h1, r1, r2, r6, r9, r11, r13⟩ := h1
  generalize upd (upd (F G (n + 2)) (n + 2 + 11 + (t.rows.length + 1)) (some ⟨t_impl_Cond, conds.map CondV.c, true, false⟩)) z (some ⟨t_int, ids.map intC, true, false⟩) = G1 at *
  have gw1 := (glow w (by omega)).trans gw
  have h2 : ∃ s'', exec ⟨den pr D, dcl pr D⟩ (hdS (nthS 24 c_q0.code)) ⟨s', G1, n + 2 + 11 + (t.rows.length + 1) + 2, 0⟩ = some (.norm ⟨s'', G1, n + 2 + 11 + (t.rows.length + 1) + 2, 0⟩) ∧ s'' 1 = s' 1 ∧ s'' 2 = s' 2 ∧ s'' 6 = s' 6 ∧ s'' 9 = s' 9 ∧ s'' 11 = s' 11 := by
    simp only [c_q0, hdS, tlS, nthS, go_sem, r6, r13, gw1, gz, e4, t5, rowsSl_int, List.length_map, Nat.le_refl, if_true, ite_self]
    exact ⟨_, rfl, rfl, rfl, r6, rfl, rfl⟩
  obtain ⟨s'', h2, p1, p2, p6, p9, p11⟩ := h2
  refine ⟨s'', G1, n + 2 + 11 + (t.rows.length + 1) + 2, ?_, ⟨p1.trans r1, p2.trans r2, p6.trans r6, (glow 0 (by omega)).trans g0, gw1, w0, wy, p9.trans r9, (glow y yn).trans gy, by omega, p11.trans r11⟩⟩
  rw [st_ex 23 h1 rfl, st_ex 24 h2 rfl]
end Go.Vm.T

/- The law of AskIds. -/
namespace Go.Vm.T
open Go.Proofs
theorem st_ret {E : Env} {C : ACode} {σ σ' : St} (i : Nat) (h : exec E (hdS (nthS i C)) σ = some (.ret σ')) (hC : nthS i C = .sq (hdS (nthS i C)) (nthS (i + 1) C)) : exec E (nthS i C) σ = some (.ret σ') := by
  rw [hC]
  show seqO (exec E (hdS (nthS i C)) σ) (fun τ => exec E (nthS (i + 1) C) τ) = _
  rw [h]
  rfl
variable [Pr2]
theorem idsL_len (t : Tab) (conds : List CondV) : (askIdsL t conds).length ≤ t.rows.length := by
  unfold askIdsL
  split
  · unfold idsL; rw [List.length_map]; exact List.length_filter_le _ _
  · simp
theorem ai_29 {D : Nat} (s : Nat → A) (G : Hp) (n : Nat) : ∃ σ', exec ⟨den pr D, dcl pr D⟩ (nthS 29 c_q0.code) ⟨s, G, n, 0⟩ = some (.ret σ') ∧ σ'.s 4 = .q true := by
  simp only [c_q0, tlS, nthS, go_sem]
  exact ⟨_, rfl, rfl⟩
structure FitD (conds : List CondV) : Prop where
  len : conds.length ≤ maxLen
  all : ∀ c ∈ conds, szD c
theorem ai_all {D : Nat} (hD : 12 ≤ D) (t : Tab) (conds : List CondV) (hf : FitT t) (hc : FitD conds) : ∃ σ', exec ⟨den pr D, dcl pr D⟩ (nthS 0 c_q0.code) ⟨slots [.agg (tabL t), .lit t_laws_Cond (conds.map CondV.c)], fun _ => none, 0, 0⟩ = some (.ret σ') ∧ σ'.s 4 = .q true := by
  have h0 : ∃ s', exec ⟨den pr D, dcl pr D⟩ (hdS (nthS 0 c_q0.code)) ⟨slots [.agg (tabL t), .lit t_laws_Cond (conds.map CondV.c)], fun _ => none, 0, 0⟩ = some (.norm ⟨s', upd (fun _ => none) 0 (some ⟨t_laws_Table, [tabL t], true, true⟩), 1, 0⟩) ∧ s' 1 = .lit t_laws_Cond (conds.map CondV.c) ∧ s' 2 = .ptr 0 0 0 := by
    simp only [c_q0, hdS, tlS, nthS, go_sem]
    exact ⟨_, rfl, rfl, rfl⟩
  obtain ⟨s0, h0, a1, a2⟩ := h0
  obtain ⟨G, hG⟩ : ∃ G : Hp, G = upd (fun _ => none) 0 (some ⟨t_laws_Table, [tabL t], true, true⟩) := ⟨_, rfl⟩
  rw [← hG] at h0
  have g0 : G 0 = some ⟨t_laws_Table, [tabL t], true, true⟩ := by rw [hG]; rfl
  obtain ⟨m, e0, hm⟩ := d_szTable2 (show 5 ≤ D by omega) t hf
  unfold cap at e0
  have h1 : exec ⟨den pr D, dcl pr D⟩ (hdS (nthS 1 c_q0.code)) ⟨s0, G, 1, 0⟩ = some (.norm ⟨upd s0 5 (.n 1048576), G, 1, 0⟩) := by
    simp only [c_q0, hdS, tlS, nthS, go_sem]
  have h2 : ∃ s', exec ⟨den pr D, dcl pr D⟩ (hdS (nthS 2 c_q0.code)) ⟨upd s0 5 (.n 1048576), G, 1, 0⟩ = some (.norm ⟨s', G, 1, 0⟩) ∧ s' 1 = .lit t_laws_Cond (conds.map CondV.c) ∧ s' 2 = .ptr 0 0 0 ∧ s' 5 = .n m := by
    simp only [c_q0, hdS, tlS, nthS, go_sem, a2, g0, e0]
    exact ⟨_, rfl, a1, a2, rfl⟩
  obtain ⟨s2, h2, b1, b2, b5⟩ := h2
  rw [st_ex 0 h0 rfl, st_ex 1 h1 rfl, st_ex 2 h2 rfl]
  by_cases hneg : m < 0
  · have h3 : ∃ σ', exec ⟨den pr D, dcl pr D⟩ (hdS (nthS 3 c_q0.code)) ⟨s2, G, 1, 0⟩ = some (.ret σ') ∧ σ'.s 4 = .q true := by
      simp only [c_q0, hdS, tlS, nthS, go_sem, b5, hneg]
      exact ⟨_, rfl, rfl⟩
    obtain ⟨σ', h3, r4⟩ := h3
    exact ⟨σ', st_ret 3 h3 rfl, r4⟩
  · obtain ⟨hm, S, m0, mc⟩ := hm.resolve_left hneg
    have h3 : ∃ s', exec ⟨den pr D, dcl pr D⟩ (hdS (nthS 3 c_q0.code)) ⟨s2, G, 1, 0⟩ = some (.norm ⟨s', G, 1, 0⟩) ∧ s' 1 = s2 1 ∧ s' 2 = s2 2 ∧ s' 5 = s2 5 := by
      simp only [c_q0, hdS, tlS, nthS, go_sem, b5, hneg]
      exact ⟨_, rfl, rfl, rfl, b5⟩
    obtain ⟨s3, h3, c1, c2, c5⟩ := h3
    rw [b1] at c1; rw [b2] at c2; rw [b5] at c5
    have e4 := d_szCondS (show 3 ≤ D by omega) conds m m0 mc hc.len hc.all
    have h4 : ∃ s', exec ⟨den pr D, dcl pr D⟩ (hdS (nthS 4 c_q0.code)) ⟨s3, G, 1, 0⟩ = some (.norm ⟨s', G, 1, 0⟩) ∧ s' 1 = s3 1 ∧ s' 2 = s3 2 ∧ s' 5 = .n (szList condW m conds) := by
      simp only [c_q0, hdS, tlS, nthS, go_sem, c1, c5, e4]
      exact ⟨_, rfl, c1, rfl, rfl⟩
    obtain ⟨s4, h4, d1, d2, d5⟩ := h4
    rw [c1] at d1; rw [c2] at d2
    rw [st_ex 3 h3 rfl, st_ex 4 h4 rfl]
    by_cases hneg2 : szList condW m conds < 0
    · have h5 : ∃ σ', exec ⟨den pr D, dcl pr D⟩ (hdS (nthS 5 c_q0.code)) ⟨s4, G, 1, 0⟩ = some (.ret σ') ∧ σ'.s 4 = .q true := by
        simp only [c_q0, hdS, tlS, nthS, go_sem, d5, hneg2]
        exact ⟨_, rfl, rfl⟩
      obtain ⟨σ', h5, r4⟩ := h5
      exact ⟨σ', st_ret 5 h5 rfl, r4⟩
    · obtain ⟨_, u1, u2⟩ := szList_ok m0 hneg2
      unfold cap at mc
      have hl : conds.length ≤ 2 ^ 20 := by omega
      have hlb : conds.length ≤ big := by unfold big; omega
      have hd : SmallD conds := fun c hc' => by have := u2 c hc'; simp only [condW] at this; unfold big; omega
      have h5 : ∃ s', exec ⟨den pr D, dcl pr D⟩ (hdS (nthS 5 c_q0.code)) ⟨s4, G, 1, 0⟩ = some (.norm ⟨s', G, 1, 0⟩) ∧ s' 1 = s4 1 ∧ s' 2 = s4 2 := by
        simp only [c_q0, hdS, tlS, nthS, go_sem, d5, hneg2]
        exact ⟨_, rfl, rfl, rfl⟩
      obtain ⟨s5, h5, f1, f2⟩ := h5
      rw [d1] at f1; rw [d2] at f2
      have hib : (askIdsL t conds).length ≤ big := Nat.le_trans (idsL_len t conds) hm.small.rlen
      obtain ⟨s6, G6, n6, w, h6, _, i1, i2, i0, i6, iw, iw0, iwn⟩ := ai_6 hD t hf hm conds hlb hd hc.all s5 G 1 (by omega) f1 f2 g0
      obtain ⟨s7, G7, n7, p, a, b, c, h7, I7⟩ := ai_7 hD t hf hm conds (askIdsL t conds) s6 G6 n6 w ⟨i1, i2, i6, i0, iw, iw0, iwn⟩
      obtain ⟨s8, G8, n8, h8, I8⟩ := ai_8 hD t conds hlb hc.all (askIdsL t conds) s7 G7 n7 w p a b c I7
      obtain ⟨s9, G9, n9, h9, I9⟩ := ai_9 hD t hm conds hlb hd s8 G8 n8 w p a b c n7 I8
      obtain ⟨s10, G10, n10, h10, I10⟩ := ai_10 hD t conds (askIdsL t conds) hib s9 G9 n9 w p a b c n7 n8 I9
      obtain ⟨s11, G11, n11, h11, I11⟩ := ai_11 hD t hf hm conds (askIdsL t conds) s10 G10 n10 w p a b c n7 n8 I10
      obtain ⟨s12, G12, n12, h12, I12⟩ := ai_12 hD t conds hlb hc.all (askIdsL t conds) s11 G11 n11 w p a b c n7 n8 I11
      obtain ⟨s13, G13, n13, k, h13, I13⟩ := ai_13 hD t hm S conds (askIdsL t conds) s12 G12 n12 w p a b c n7 n8 I12
      obtain ⟨s15, G15, n15, h15, I15⟩ := ai_15 hD t conds hl (askIdsL t conds) hib s13 G13 n13 w n7 n8 k I13
      obtain ⟨s19, h19, I19⟩ := ai_19 hD t conds (askIdsL t conds) hib s15 G15 n15 w n8 I15
      obtain ⟨s23, G23, n23, h23, I23⟩ := ai_23 hD t hf hm conds hlb hd hc.all hib s19 G15 n15 w n8 I19
      obtain ⟨s25, h25, I25⟩ := ai_25 hD t conds (askIdsL t conds) hib s23 G23 n23 w n8 I23
      rw [st_ex 5 h5 rfl, st_ex 6 h6 rfl, st_ex 7 h7 rfl, st_ex 8 h8 rfl, st_ex 9 h9 rfl, st_ex 10 h10 rfl, st_ex 11 h11 rfl, st_ex 12 h12 rfl, h13, h15, h19, h23, h25]
      exact ai_29 s25 G23 n23
theorem d_FnExactAskIds {D : Nat} (hD : 13 ≤ D) (t : Tab) (conds : List CondV) (hf : FitT t) (hc : FitD conds) : den pr D f_q0 [.agg (tabL t), .lit t_laws_Cond (conds.map CondV.c)] = some [.q true] := by
  obtain ⟨D, rfl, hd⟩ := pred_of hD
  rw [u_q0]
  obtain ⟨σ', h, h4⟩ := ai_all hd t conds hf hc
  have h' : exec ⟨den pr D, dcl pr D⟩ c_q0.code ⟨slots [.agg (tabL t), .lit t_laws_Cond (conds.map CondV.c)], fun _ => none, 0, 0⟩ = some (.ret σ') := h
  rw [h']
  simp only [c_q0, go_sem, h4]
end Go.Vm.T
end
