/-
  A table that is right and what is asked, of the program's
-/
import Derived.Test.YtcceojmajfinpaaGreatDoorFnsE
section
set_option linter.unusedVariables false
set_option linter.unusedSectionVars false
set_option linter.unusedSimpArgs false
/- A table that is right: the program's. -/
namespace Go.Vm.T
open Go.Proofs
def tabRG (t : Tab) (_ : Nat) (last : Int) (r : RowV) : Int ⊕ Unit :=
  bif inB r.id (last + 1) (t.next - 1) && (inB r.ver 0 t.chg.length && (rowOk ((chgs t.first (t.chg.take r.ver.toNat)).getD []) r.vals && rowOk (shapeT t) (nowV t r))) then .inl r.id else .inr ()
def rowsB (t : Tab) : Bool := match runI (tabRG t) 0 0 t.rows with | .inl _ => true | .inr _ => false
def tableOk (t : Tab) : Bool := (shAll t.first t.chg).isSome && (decide (t.chg.length ≤ 8) && (decide (t.rows.length ≤ 8) && (inB t.next 1 60 && (rowsB t && tabB t))))
def jk : Option A → A
  | some a => .ifg false a
  | none => .und
theorem underS_jk (σ : St) (d : Option Nat) (o : Option A) (k : Option St) : underS false σ d o k = some ⟨put σ.s d (jk o), σ.h, σ.n, σ.base⟩ := by cases o <;> rfl
theorem underV_jk (σ : St) (d : Option Nat) (o : Option A) : underV false σ d o = some ⟨put σ.s d (jk o), σ.h, σ.n, σ.base⟩ := by cases o <;> rfl
theorem opQ_f (a : A) : ∃ q, opQ false a = some q := by
  unfold opQ
  split
  · exact ⟨_, rfl⟩
  · exact ⟨_, rfl⟩
  · exact ⟨_, rfl⟩
theorem bq {β : Type} (X a : A) (f : A → Option β) : bnd (bnd (opQ false X) fun _ => some a) f = f a := by
  obtain ⟨q, hq⟩ := opQ_f X
  rw [hq]
  rfl
variable [Pr2]
def g86 : List G := [.g 81 false (.call (some 86) 1 0 f_impl_rowOk [(.t 82), (.t 85)]), .g 81 false (.un 87 .not (.t 86)), .o (.pick 88 (.t 81) (.k (.v (.bool true))) (.t 87))]
def tl85 (E : Env) (σ : St) (o : Option A) : Nat → A := match bnd (underS false σ (some 85) o none) (steps E 1 g86) with | some τ => τ.s | none => σ.s
theorem tail85 (E : Env) (σ : St) (o : Option A) (k : Option St) (h : σ.s 81 = .q true) : bnd (underS false σ (some 85) o k) (steps E 1 [.g 81 false (.call (some 86) 1 0 f_impl_rowOk [(.t 82), (.t 85)]), .g 81 false (.un 87 .not (.t 86)), .o (.pick 88 (.t 81) (.k (.v (.bool true))) (.t 87))]) = some ⟨upd (tl85 E σ o) 88 (.q true), σ.h, σ.n, σ.base⟩ := by
  have key : ∃ f, bnd (underS false σ (some 85) o none) (steps E 1 g86) = some ⟨upd f 88 (.q true), σ.h, σ.n, σ.base⟩ := by
    rw [underS_jk]
    obtain ⟨s, hp, n, b⟩ := σ
    simp only at h
    simp only [g86, go_sem, Nat.reduceEqDiff, Nat.reduceAdd, reduceIte, reduceCtorEq, Nat.reduceLeDiff, Nat.reduceLT, h, underS_jk, underV_jk]
    rw [bq]
    exact ⟨_, rfl⟩
  obtain ⟨f, hf⟩ := key
  have : tl85 E σ o = upd f 88 (.q true) := by unfold tl85; rw [hf]
  rw [this, underS_jk, ← underS_jk _ _ _ none]
  rw [show upd (upd f 88 (.q true)) 88 (.q true) = upd f 88 (.q true) from by funext i; simp only [upd_apply]; split <;> rfl]
  exact hf
theorem rowOk_len {s : List ColV} {row : List Val} (h : rowOk s row = true) : row.length = s.length := by
  unfold rowOk at h
  simp at h
  exact h.1
structure RowF (D : Nat) (t : Tab) (m : Int) (i v : Nat) (rid : Int) (rvals : List Val) (s : List ColV) : Prop where
  hr : (t.rows.map RowV.c)[i]? = some (RowV.mk rid v rvals).c
  hlt : i < t.rows.length
  hw : IntKind.i64.wrap ((i : Int) + 1) = ((i + 1 : Nat) : Int)
  hw1 : IntKind.i64.wrap (m + 1) = m + 1
  hw2 : IntKind.i64.wrap (t.next - 1) = t.next - 1
  e1 : den pr D f_impl_in [.n rid, .n (m + 1), .n (t.next - 1)] = some [.q true]
  e2 : den pr D f_impl_in [.n v, .n 0, .n t.chg.length] = some [.q true]
  e3 : den pr D f_impl_changes [.lit t_impl_Col (t.first.map ColV.c), .lit t_impl_Change ((t.chg.map Chg.c).take v)] = some [.olit t_impl_Col (s.map ColV.c), .q true]
  v0 : (0 : Int) ≤ (v : Int)
  vt : ((v : Int)).toNat = v
  hvl : v ≤ t.chg.length
  hts : (s.map ColV.c).take s.length = s.map ColV.c
  htf : List.take t.chg.length (List.map Chg.c t.chg) = List.map Chg.c t.chg
abbrev headS (t : Tab) (i : Nat) (m : Int) : St := ⟨upd (upd (upd (upd (upd (upd (fun _ => .bad) 1 (.ptr 0 0 0)) 3 (.ref t_impl_Col 1 0 (shapeT t).length (shapeT t).length false)) 5 (.n m)) 39 (.lit t_impl_Row (t.rows.map RowV.c))) 40 (.n t.rows.length)) 41 (.n i), upd (upd (fun _ => none) 0 (some ⟨t_impl_Table, [t.c], true, true⟩)) 1 (some ⟨t_impl_Col, (shapeT t).map ColV.c, true, false⟩), 2, 0⟩
theorem step_f {D : Nat} {t : Tab} {m : Int} {i v : Nat} {rid : Int} {rvals : List Val} {s : List ColV} (F : RowF D t m i v rid rvals s) (e4 : den pr D f_impl_rowOk [.lit t_impl_Col (s.map ColV.c), .lit t_impl_Val (rvals.map Val.c)] = some [.q false]) (K : Nat) :
    ∃ out, loopN (exec ⟨den pr D, dcl pr D⟩ b_impl_TableOk_0) [1, 3, 5, 39, 40, 41] (K + 1) (headS t i m) = some out ∧ ∃ σ', out = .ret σ' ∧ σ'.s 2 = .q false := by
  obtain ⟨hr, hlt, hw, hw1, hw2, e1, e2, e3, v0, vt, hvl, hts, htf⟩ := F
  simp only [loopN, e_impl_TableOk_0, B_impl_TableOk_0, go_sem, Nat.reduceEqDiff, Nat.reduceAdd, reduceIte, reduceCtorEq, Nat.reduceLeDiff, Nat.reduceLT, List.length_map, hr, hlt, hw, hw1, hw2, e1, e2, e3, e4, v0, vt, hvl, hts, htf, tail85, rowsSl_col, Nat.le_refl, Nat.zero_le, Option.isNone_none, and_self, if_true, List.drop_zero, Nat.sub_zero]
  exact ⟨_, rfl, _, rfl, rfl⟩
theorem step_t {D : Nat} {t : Tab} {m : Int} {i v : Nat} {rid : Int} {rvals : List Val} {s : List ColV} (F : RowF D t m i v rid rvals s) (e4 : den pr D f_impl_rowOk [.lit t_impl_Col (s.map ColV.c), .lit t_impl_Val (rvals.map Val.c)] = some [.q true])
    (row : List Val) (e5 : den pr D f_impl_Table_now [.agg t.c, .agg (RowV.mk rid v rvals).c] = some [.olit t_impl_Val (row.map Val.c)]) (e6 : den pr D f_impl_rowOk [.lit t_impl_Col ((shapeT t).map ColV.c), .lit t_impl_Val (row.map Val.c)] = some [.q true]) (K : Nat) :
    loopN (exec ⟨den pr D, dcl pr D⟩ b_impl_TableOk_0) [1, 3, 5, 39, 40, 41] (K + 1) (headS t i m) = loopN (exec ⟨den pr D, dcl pr D⟩ b_impl_TableOk_0) [1, 3, 5, 39, 40, 41] K (headS t (i + 1) rid) := by
  obtain ⟨hr, hlt, hw, hw1, hw2, e1, e2, e3, v0, vt, hvl, hts, htf⟩ := F
  have htn : (row.map Val.c).take row.length = row.map Val.c := List.take_of_length_le (by simp)
  have htsh : ((shapeT t).map ColV.c).take (shapeT t).length = (shapeT t).map ColV.c := List.take_of_length_le (by simp)
  simp only [loopN, e_impl_TableOk_0, B_impl_TableOk_0, go_sem, Nat.reduceEqDiff, Nat.reduceAdd, reduceIte, reduceCtorEq, Nat.reduceLeDiff, Nat.reduceLT, List.length_map, hr, hlt, hw, hw1, hw2, e1, e2, e3, e4, e5, e6, v0, vt, hvl, hts, htf, htn, htsh, rowsSl_col, rowsSl_val, Nat.le_refl, Nat.zero_le, Option.isNone_none, and_self, if_true, List.drop_zero, Nat.sub_zero]
theorem step_n {D : Nat} {t : Tab} {m : Int} {i v : Nat} {rid : Int} {rvals : List Val} {s : List ColV} (F : RowF D t m i v rid rvals s) (e4 : den pr D f_impl_rowOk [.lit t_impl_Col (s.map ColV.c), .lit t_impl_Val (rvals.map Val.c)] = some [.q true])
    (row : List Val) (e5 : den pr D f_impl_Table_now [.agg t.c, .agg (RowV.mk rid v rvals).c] = some [.olit t_impl_Val (row.map Val.c)]) (e6 : den pr D f_impl_rowOk [.lit t_impl_Col ((shapeT t).map ColV.c), .lit t_impl_Val (row.map Val.c)] = some [.q false]) (K : Nat) :
    ∃ out, loopN (exec ⟨den pr D, dcl pr D⟩ b_impl_TableOk_0) [1, 3, 5, 39, 40, 41] (K + 1) (headS t i m) = some out ∧ ∃ σ', out = .ret σ' ∧ σ'.s 2 = .q false := by
  obtain ⟨hr, hlt, hw, hw1, hw2, e1, e2, e3, v0, vt, hvl, hts, htf⟩ := F
  have htn : (row.map Val.c).take row.length = row.map Val.c := List.take_of_length_le (by simp)
  have htsh : ((shapeT t).map ColV.c).take (shapeT t).length = (shapeT t).map ColV.c := List.take_of_length_le (by simp)
  simp only [loopN, e_impl_TableOk_0, B_impl_TableOk_0, go_sem, Nat.reduceEqDiff, Nat.reduceAdd, reduceIte, reduceCtorEq, Nat.reduceLeDiff, Nat.reduceLT, List.length_map, hr, hlt, hw, hw1, hw2, e1, e2, e3, e4, e5, e6, v0, vt, hvl, hts, htf, htn, htsh, rowsSl_col, rowsSl_val, Nat.le_refl, Nat.zero_le, Option.isNone_none, and_self, if_true, List.drop_zero, Nat.sub_zero]
  exact ⟨_, rfl, _, rfl, rfl⟩
theorem lp_TableOk {D : Nat} (hD : 8 ≤ D) (t : Tab) (ht : SmallT t) (hn : 1 ≤ t.next ∧ t.next ≤ 60) (hall : (chgs t.first t.chg).isSome = true) :
    Ended (loopN (exec ⟨den pr D, dcl pr D⟩ b_impl_TableOk_0) [1, 3, 5, 39, 40, 41] rounds ⟨upd (upd (upd (upd (upd (upd (fun _ => .bad) 1 (.ptr 0 0 0)) 3 (.ref t_impl_Col 1 0 (shapeT t).length (shapeT t).length false)) 5 (.n 0)) 39 (.lit t_impl_Row (t.rows.map RowV.c))) 40 (.n t.rows.length)) 41 (.n (0 : Nat)), upd (upd (fun _ => none) 0 (some ⟨t_impl_Table, [t.c], true, true⟩)) 1 (some ⟨t_impl_Col, (shapeT t).map ColV.c, true, false⟩), 2, 0⟩) Int Unit (runI (tabRG t) 0 0 t.rows)
      (fun m o => ∃ σ', o = .exit 0 σ' ∧ σ'.s 1 = .ptr 0 0 0 ∧ σ'.h 0 = some ⟨t_impl_Table, [t.c], true, true⟩) (fun _ o => ∃ σ', o = .ret σ' ∧ σ'.s 2 = .q false) := by
  refine loop_all t.rows (fun i (m : Int) => ⟨upd (upd (upd (upd (upd (upd (fun _ => .bad) 1 (.ptr 0 0 0)) 3 (.ref t_impl_Col 1 0 (shapeT t).length (shapeT t).length false)) 5 (.n m)) 39 (.lit t_impl_Row (t.rows.map RowV.c))) 40 (.n t.rows.length)) 41 (.n i), upd (upd (fun _ => none) 0 (some ⟨t_impl_Table, [t.c], true, true⟩)) 1 (some ⟨t_impl_Col, (shapeT t).map ColV.c, true, false⟩), 2, 0⟩) (tabRG t) (fun _ m => 0 ≤ m ∧ m ≤ 60) _ _ 0 ⟨by omega, by omega⟩ ht.rlen (fun i m r K hc hlt hI => ?_) (fun m K hI => ?_)
  · have hr := map_at (f := RowV.c) hc
    have hw := wrap_nat (n := i) (by have := ht.rlen; unfold big at this; omega)
    have hw1 : IntKind.i64.wrap (m + 1) = m + 1 := wrap_i64 (by omega) (by omega)
    have hw2 : IntKind.i64.wrap (t.next - 1) = t.next - 1 := wrap_i64 (by omega) (by omega)
    have e1 := d_in (show 1 ≤ D by omega) r.id (m + 1) (t.next - 1)
    have e2 := d_in (show 1 ≤ D by omega) r.ver 0 t.chg.length
    have hv := ht.vals r (List.mem_of_getElem? hc)
    unfold tabRG
    cases p1 : inB r.id (m + 1) (t.next - 1) with
    | false =>
      rw [p1] at e1
      simp only [loopN, e_impl_TableOk_0, B_impl_TableOk_0, go_sem, Nat.reduceEqDiff, Nat.reduceAdd, reduceIte, reduceCtorEq, Nat.reduceLeDiff, Nat.reduceLT, List.length_map, hr, hlt, hw, hw1, hw2, e1, e2]
      exact ⟨_, rfl, _, rfl, rfl⟩
    | true =>
      rw [p1] at e1
      cases p2 : inB r.ver 0 t.chg.length with
      | false =>
        rw [p2] at e2
        simp only [loopN, e_impl_TableOk_0, B_impl_TableOk_0, go_sem, Nat.reduceEqDiff, Nat.reduceAdd, reduceIte, reduceCtorEq, Nat.reduceLeDiff, Nat.reduceLT, List.length_map, hr, hlt, hw, hw1, hw2, e1, e2]
        exact ⟨_, rfl, _, rfl, rfl⟩
      | true =>
        rw [p2] at e2
        obtain ⟨v, hver⟩ : ∃ v : Nat, r.ver = v := ⟨r.ver.toNat, by unfold inB at p2; simp at p2; omega⟩
        have hvl : v ≤ t.chg.length := by unfold inB at p2; simp at p2; omega
        have hvt : r.ver.toNat = v := by omega
        have hap := chgs_app t.first (t.chg.take v) (t.chg.drop v)
        rw [List.take_append_drop] at hap
        obtain ⟨rid, rver, rvals⟩ := r
        simp only at hver hv e1 e2 p1 p2 hvt hr ⊢
        subst hver
        obtain ⟨s, hs⟩ : ∃ s, chgs t.first (t.chg.take v) = some s := by
          cases hq : chgs t.first (t.chg.take v) with
          | some s => exact ⟨s, rfl⟩
          | none => rw [hq] at hap; rw [hap] at hall; cases hall
        have hg := ht.glen
        have e3 := d_changes (show 6 ≤ D by omega) t.first (t.chg.take v) ht.cols ht.clen (fun c hc => ht.chg c (List.mem_of_mem_take hc)) (by rw [List.length_take]; omega)
        rw [hvt, hs]
        rw [hs] at e3
        simp only [Option.getD_some, Option.isSome_some] at e3 ⊢
        have e4 := d_rowOk (show 3 ≤ D by omega) s rvals hv.1 (by omega)
        have m1 : (t.chg.take v).map Chg.c = (t.chg.map Chg.c).take v := List.map_take
        rw [m1] at e3
        have v0 : (0 : Int) ≤ (v : Int) := by omega
        have vt : ((v : Int)).toNat = v := by omega
        have hts : (s.map ColV.c).take s.length = s.map ColV.c := List.take_of_length_le (by simp)
        have htf : List.take t.chg.length (List.map Chg.c t.chg) = List.map Chg.c t.chg := List.take_of_length_le (by simp)
        have F : RowF D t m i v rid rvals s := ⟨hr, hlt, hw, hw1, hw2, e1, e2, e3, v0, vt, hvl, hts, htf⟩
        cases p3 : rowOk s rvals with
        | false =>
          rw [p3] at e4
          exact step_f F e4 K
        | true =>
          rw [p3] at e4
          have hN : NowOk t ⟨rid, v, rvals⟩ := ⟨v0, by show (v : Int) ≤ _; omega, hall, by show rvals.length = ((chgs t.first (t.chg.take ((v : Int)).toNat)).getD []).length; rw [hvt, hs]; exact rowOk_len p3, hv.1⟩
          have e5 := d_now (show 7 ≤ D by omega) t ht ⟨rid, v, rvals⟩ hN
          have hns := rowsA_small (s := s) (cs := t.chg.drop v) hv.1 (fun c hc => ht.chg c (List.mem_of_mem_drop hc))
          have hnl := now_len hN
          have hsn : nowV t ⟨rid, v, rvals⟩ = rowsA s (t.chg.drop v) rvals := by unfold nowV; simp only [hvt, hs, Option.getD_some]
          have e6 := d_rowOk (show 3 ≤ D by omega) (shapeT t) (nowV t ⟨rid, v, rvals⟩) (by rw [hsn]; exact hns) (by
            rw [hnl]
            obtain ⟨s', hs'⟩ := Option.isSome_iff_exists.1 hall
            have := (chgs_small ⟨ht.cols, ht.clen⟩ hs').2
            unfold shapeT
            rw [hs']
            simp only [Option.getD_some]; omega)
          have hidb : 0 ≤ rid ∧ rid ≤ 60 := by unfold inB at p1; simp at p1; omega
          cases p4 : rowOk (shapeT t) (nowV t ⟨rid, v, rvals⟩) with
          | false =>
            rw [p4] at e6
            exact step_n F e4 _ e5 e6 K
          | true =>
            rw [p4] at e6
            exact ⟨step_t F e4 _ e5 e6 K, hidb⟩
  · have hi : ¬ t.rows.length < t.rows.length := by omega
    simp only [loopN, e_impl_TableOk_0, B_impl_TableOk_0, go_sem, Nat.reduceEqDiff, Nat.reduceAdd, reduceIte, reduceCtorEq, Nat.reduceLeDiff, Nat.reduceLT, List.length_map, hi]
    exact ⟨_, rfl, _, rfl, rfl, rfl⟩
end Go.Vm.T
end

section
set_option linter.unusedVariables false
set_option linter.unusedSectionVars false
set_option linter.unusedSimpArgs false
/- TableOk, rows by their numbers, and what is asked: the program's. -/
namespace Go.Vm.T
open Go.Proofs
variable [Pr2]
theorem rowsB_at {t : Tab} {m : Int} : ∀ {rs : List RowV} {i : Nat} {last : Int}, runI (tabRG t) i last rs = .inl m → (chgs t.first t.chg).isSome = true → (∀ r ∈ rs, SmallR r.vals) → ∀ r ∈ rs, NowOk t r
  | [], i, last, _, _, _, r, h => by simp at h
  | x :: rs, i, last, hr, hall, hv, r, h => by
    unfold runI tabRG at hr
    cases hq : inB x.id (last + 1) (t.next - 1) && (inB x.ver 0 t.chg.length && (rowOk ((chgs t.first (t.chg.take x.ver.toNat)).getD []) x.vals && rowOk (shapeT t) (nowV t x))) with
    | false => rw [hq] at hr; cases hr
    | true =>
      rw [hq] at hr
      rcases List.mem_cons.1 h with h | h
      · subst h
        simp only [Bool.and_eq_true] at hq
        obtain ⟨_, h2, h3, _⟩ := hq
        have h2' : 0 ≤ r.ver ∧ r.ver ≤ t.chg.length := by unfold inB at h2; simpa using h2
        exact ⟨h2'.1, h2'.2, hall, rowOk_len h3, hv r List.mem_cons_self⟩
      · exact rowsB_at hr hall (fun r h => hv r (List.mem_cons_of_mem _ h)) r h
structure TabOk (t : Tab) : Prop where
  once : OnceOk t
  sh : shapeOk t.first = true
  shape : shapeOk (shapeT t) = true
  glen : t.chg.length ≤ 8
  rlen : t.rows.length ≤ 8
  next : 1 ≤ t.next ∧ t.next ≤ 60
  rows : rowsB t = true
  tab : tabB t = true
theorem tabOk_of {t : Tab} (ht : SmallT t) (h : tableOk t = true) : TabOk t := by
  unfold tableOk at h
  simp only [Bool.and_eq_true, decide_eq_true_eq] at h
  obtain ⟨h1, h2, h3, h4, h5, h6⟩ := h
  have hs : shapeOk t.first = true := by
    unfold shAll at h1
    split at h1
    · rename_i hs; exact hs
    · cases h1
  unfold shAll at h1
  rw [if_pos hs] at h1
  obtain ⟨s', hs'⟩ := Option.isSome_iff_exists.1 h1
  have hr : ∀ r ∈ t.rows, NowOk t r := by
    have h5' := h5
    unfold rowsB at h5'
    split at h5'
    · rename_i m hm
      exact rowsB_at hm h1 (fun r h => (ht.vals r h).1)
    · cases h5'
  exact ⟨⟨ht, h1, hr⟩, hs, by unfold shapeT; rw [hs']; exact chgs_shape hs hs', h2, h3, by unfold inB at h4; simpa using h4, h5, h6⟩
theorem d_TableOk {D : Nat} (hD : 9 ≤ D) (t : Tab) (ht : SmallT t) : den pr D f_impl_TableOk [.agg t.c] = some [.q (tableOk t)] := by
  obtain ⟨D, rfl, hd⟩ := pred_of hD
  rw [u_impl_TableOk]
  have e1 := d_ShapeAll (show 7 ≤ D by omega) t.first t.chg ht.cols ht.clen ht.chg ht.glen
  have e2 := d_in (show 1 ≤ D by omega) t.next 1 60
  unfold tableOk
  cases p1 : (shAll t.first t.chg).isSome with
  | false =>
    rw [p1] at e1
    simp only [c_impl_TableOk, go_sem, Nat.reduceEqDiff, Nat.reduceAdd, reduceIte, reduceCtorEq, Nat.reduceLeDiff, Nat.reduceLT, e1, e2, List.length_map, rowsSl_col]
  | true =>
    rw [p1] at e1
    have hsh : (shAll t.first t.chg).getD [] = shapeT t := by
      unfold shAll at *
      split at p1
      · rename_i hs; rw [if_pos hs]; rfl
      · cases p1
    have hall : (chgs t.first t.chg).isSome = true := by
      unfold shAll at p1
      split at p1
      · exact p1
      · cases p1
    rw [hsh] at e1
    have i1 : ((8 : Int) < (t.chg.length : Int)) = ¬ (t.chg.length ≤ 8) := by rw [eq_iff_iff]; omega
    have i2 : ((8 : Int) < (t.rows.length : Int)) = ¬ (t.rows.length ≤ 8) := by rw [eq_iff_iff]; omega
    rcases pf (t.chg.length ≤ 8) with h1 | h1
    · rcases pf (t.rows.length ≤ 8) with h2 | h2
      · cases p2 : inB t.next 1 60 with
        | false =>
          rw [p2] at e2
          simp only [c_impl_TableOk, go_sem, Nat.reduceEqDiff, Nat.reduceAdd, reduceIte, reduceCtorEq, Nat.reduceLeDiff, Nat.reduceLT, e1, e2, List.length_map, rowsSl_col, i1, i2, h1, h2]
        | true =>
          rw [p2] at e2
          have hn : 1 ≤ t.next ∧ t.next ≤ 60 := by unfold inB at p2; simpa using p2
          obtain ⟨out, lo, lp⟩ := lp_TableOk hd t ht hn hall
          rw [show ((0 : Nat) : Int) = 0 from rfl] at lo
          cases hq : runI (tabRG t) 0 0 t.rows with
          | inl m =>
            rw [hq] at lp
            obtain ⟨σ', rfl, l1, l2⟩ := lp
            have hB : rowsB t = true := by unfold rowsB; rw [hq]
            have H : OnceOk t := ⟨ht, hall, rowsB_at hq hall (fun r h => (ht.vals r h).1)⟩
            have e3 := d_once (show 1 ≤ D by omega) t H
            simp only [c_impl_TableOk, go_sem, Nat.reduceEqDiff, Nat.reduceAdd, reduceIte, reduceCtorEq, Nat.reduceLeDiff, Nat.reduceLT, e1, e2, List.length_map, rowsSl_col, i1, i2, h1, h2, lo, l1, l2, e3, hB]
          | inr u =>
            rw [hq] at lp
            obtain ⟨σ', rfl, l2⟩ := lp
            have hB : rowsB t = false := by unfold rowsB; rw [hq]
            simp only [c_impl_TableOk, go_sem, Nat.reduceEqDiff, Nat.reduceAdd, reduceIte, reduceCtorEq, Nat.reduceLeDiff, Nat.reduceLT, e1, e2, List.length_map, rowsSl_col, i1, i2, h1, h2, lo, l2, hB]
      · simp only [c_impl_TableOk, go_sem, Nat.reduceEqDiff, Nat.reduceAdd, reduceIte, reduceCtorEq, Nat.reduceLeDiff, Nat.reduceLT, e1, e2, List.length_map, rowsSl_col, i1, i2, h1, h2]
    · simp only [c_impl_TableOk, go_sem, Nat.reduceEqDiff, Nat.reduceAdd, reduceIte, reduceCtorEq, Nat.reduceLeDiff, Nat.reduceLT, e1, e2, List.length_map, rowsSl_col, i1, i2, h1]
end Go.Vm.T
end

section
set_option linter.unusedVariables false
set_option linter.unusedSectionVars false
set_option linter.unusedSimpArgs false
/- Rows by their numbers: the program's. -/
namespace Go.Vm.T
open Go.Proofs
def idG (id : Int) : Nat → Unit → RowV → Unit ⊕ Nat := fun i _ x => bif decide (x.id = id) then .inr i else .inl ()
def idAt (id : Int) (rs : List RowV) : Option Nat := match runI (idG id) 0 () rs with
  | .inl _ => none
  | .inr i => some i
def idI (id : Int) (rs : List RowV) : Int := match idAt id rs with
  | none => -1
  | some i => i
theorem id_lt (id : Int) : ∀ (cs : List RowV) (i k : Nat), runI (idG id) i () cs = .inr k → i ≤ k ∧ k < i + cs.length
  | [], i, k, h => nomatch h
  | x :: cs, i, k, h => by
    unfold runI idG at h
    by_cases hx : x.id = id
    · simp [hx] at h
      subst h
      simp
    · simp only [hx, decide_false, cond_false] at h
      have := id_lt id cs (i + 1) k h
      simp only [List.length_cons]
      omega
theorem idAt_lt {id : Int} {cs : List RowV} {k : Nat} (h : idAt id cs = some k) : k < cs.length := by
  unfold idAt at h
  cases hr : runI (idG id) 0 () cs with
  | inl _ => rw [hr] at h; cases h
  | inr i =>
    rw [hr] at h
    cases h
    have := id_lt id cs 0 k hr
    omega
def inG (x : Int) : Nat → Unit → Int → Unit ⊕ Nat := fun i _ y => bif decide (x = y) then .inr i else .inl ()
theorem in_run (x : Int) : ∀ (l : List Int) (i : Nat), (match runI (inG x) i () l with | .inl _ => false | .inr _ => true) = decide (x ∈ l)
  | [], i => by simp [runI]
  | y :: l, i => by
    unfold runI inG
    by_cases h : x = y
    · simp [h]
    · have := in_run x l (i + 1)
      simp only [h, decide_false, cond_false]
      unfold inG at this
      rw [this]
      simp [h]
variable [Pr2]
theorem d_rowAt_1 {D : Nat} (hD : 1 ≤ D) (r : RowV) (id : Int) : den pr D f_impl_Table_rowAt_1 [.agg r.c, .pl [.n id] 0] = some [.q (decide (r.id = id))] := by
  obtain ⟨D, rfl, hd⟩ := pred_of hD
  rw [u_impl_Table_rowAt_1]
  simp only [c_impl_Table_rowAt_1, go_sem, Nat.reduceEqDiff, Nat.reduceAdd, reduceIte, reduceCtorEq, Nat.reduceLeDiff, Nat.reduceLT]
theorem lp_IndexRow {D : Nat} (hD : 1 ≤ D) (id : Int) (cs : List RowV) (hl : cs.length ≤ big) :
    Ended (loopN (exec ⟨den pr D, dcl pr D⟩ b_slices_IndexFunc_S_impl_Row_impl_Row_0) [0, 1, 7, 8] rounds ⟨upd (upd (upd (upd (fun _ => .bad) 0 (.lit t_impl_Row (cs.map RowV.c))) 1 (.fn f_impl_Table_rowAt_1 [.pl [.n id] 0])) 7 (.n cs.length)) 8 (.n (0 : Nat)), fun _ => none, 0, 0⟩) Unit Nat (runI (idG id) 0 () cs)
      (fun _ o => ∃ σ', o = .exit 0 σ') (fun i o => ∃ σ', o = .ret σ' ∧ σ'.s 4 = .n i) := by
  refine loop_all cs (fun i (_ : Unit) => ⟨upd (upd (upd (upd (fun _ => .bad) 0 (.lit t_impl_Row (cs.map RowV.c))) 1 (.fn f_impl_Table_rowAt_1 [.pl [.n id] 0])) 7 (.n cs.length)) 8 (.n i), fun _ => none, 0, 0⟩) _ (fun _ _ => True) _ _ () trivial hl (fun i _ x K hc hlt hi => ?_) (fun _ K _ => ?_)
  · have hr := map_at (f := RowV.c) hc
    have hw := wrap_nat (n := i) (by unfold big at hl; omega)
    have hp := d_rowAt_1 hD x id
    simp only [loopN, e_slices_IndexFunc_S_impl_Row_impl_Row_0, B_slices_IndexFunc_S_impl_Row_impl_Row_0, go_sem, Nat.reduceEqDiff, Nat.reduceAdd, reduceIte, reduceCtorEq, Nat.reduceLeDiff, Nat.reduceLT, List.length_map, hr, hlt, hw, hp, idG]
    generalize decide (x.id = id) = q
    cases q with
    | true => simp only [go_sem, Nat.reduceEqDiff, Nat.reduceAdd, reduceIte, reduceCtorEq, Nat.reduceLeDiff, Nat.reduceLT]; exact ⟨_, rfl, _, rfl, rfl⟩
    | false => simp only [go_sem, Nat.reduceEqDiff, Nat.reduceAdd, reduceIte, reduceCtorEq, Nat.reduceLeDiff, Nat.reduceLT]
  · have hi : ¬ cs.length < cs.length := by omega
    simp only [loopN, e_slices_IndexFunc_S_impl_Row_impl_Row_0, B_slices_IndexFunc_S_impl_Row_impl_Row_0, go_sem, Nat.reduceEqDiff, Nat.reduceAdd, reduceIte, reduceCtorEq, Nat.reduceLeDiff, Nat.reduceLT, List.length_map, hi]
    exact ⟨_, rfl, _, rfl⟩
theorem d_IndexRow {D : Nat} (hD : 2 ≤ D) (id : Int) (cs : List RowV) (hl : cs.length ≤ big) : den pr D f_slices_IndexFunc_S_impl_Row_impl_Row [.lit t_impl_Row (cs.map RowV.c), .fn f_impl_Table_rowAt_1 [.pl [.n id] 0]] = some [.n (idI id cs)] := by
  obtain ⟨D, rfl, hd⟩ := pred_of hD
  rw [u_slices_IndexFunc_S_impl_Row_impl_Row]
  obtain ⟨out, lo, lp⟩ := lp_IndexRow hd id cs hl
  rw [show ((0 : Nat) : Int) = 0 from rfl] at lo
  unfold idI idAt
  cases hr : runI (idG id) 0 () cs with
  | inl _ =>
    rw [hr] at lp
    obtain ⟨σ', rfl⟩ := lp
    simp only [c_slices_IndexFunc_S_impl_Row_impl_Row, go_sem, Nat.reduceEqDiff, Nat.reduceAdd, reduceIte, reduceCtorEq, Nat.reduceLeDiff, Nat.reduceLT, List.length_map, lo]
  | inr i =>
    rw [hr] at lp
    obtain ⟨σ', rfl, l2⟩ := lp
    simp only [c_slices_IndexFunc_S_impl_Row_impl_Row, go_sem, Nat.reduceEqDiff, Nat.reduceAdd, reduceIte, reduceCtorEq, Nat.reduceLeDiff, Nat.reduceLT, List.length_map, lo, l2]
theorem d_rowAt {D : Nat} (hD : 3 ≤ D) (t : Tab) (id : Int) (hl : t.rows.length ≤ big) : den pr D f_impl_Table_rowAt [.agg t.c, .n id] = some [.n (idI id t.rows)] := by
  obtain ⟨D, rfl, hd⟩ := pred_of hD
  rw [u_impl_Table_rowAt]
  have h := d_IndexRow hd id t.rows hl
  simp only [c_impl_Table_rowAt, go_sem, Nat.reduceEqDiff, Nat.reduceAdd, reduceIte, reduceCtorEq, Nat.reduceLeDiff, Nat.reduceLT, h]
theorem lp_IndexInt {D : Nat} (x : Int) (cs : List Int) (hl : cs.length ≤ big) :
    Ended (loopN (exec ⟨den pr D, dcl pr D⟩ b_slices_Index_S_int_int_0) [0, 1, 7, 8] rounds ⟨upd (upd (upd (upd (fun _ => .bad) 0 (.lit t_int (cs.map intC))) 1 (.n x)) 7 (.n cs.length)) 8 (.n (0 : Nat)), fun _ => none, 0, 0⟩) Unit Nat (runI (inG x) 0 () cs)
      (fun _ o => ∃ σ', o = .exit 0 σ') (fun i o => ∃ σ', o = .ret σ' ∧ σ'.s 4 = .n i) := by
  refine loop_all cs (fun i (_ : Unit) => ⟨upd (upd (upd (upd (fun _ => .bad) 0 (.lit t_int (cs.map intC))) 1 (.n x)) 7 (.n cs.length)) 8 (.n i), fun _ => none, 0, 0⟩) _ (fun _ _ => True) _ _ () trivial hl (fun i _ y K hc hlt hi => ?_) (fun _ K _ => ?_)
  · have hr := map_at (f := intC) hc
    have hw := wrap_nat (n := i) (by unfold big at hl; omega)
    simp only [loopN, e_slices_Index_S_int_int_0, B_slices_Index_S_int_int_0, go_sem, Nat.reduceEqDiff, Nat.reduceAdd, reduceIte, reduceCtorEq, Nat.reduceLeDiff, Nat.reduceLT, List.length_map, hr, hlt, hw, inG]
    generalize decide (x = y) = q
    cases q with
    | true => simp only [go_sem, Nat.reduceEqDiff, Nat.reduceAdd, reduceIte, reduceCtorEq, Nat.reduceLeDiff, Nat.reduceLT]; exact ⟨_, rfl, _, rfl, rfl⟩
    | false => simp only [go_sem, Nat.reduceEqDiff, Nat.reduceAdd, reduceIte, reduceCtorEq, Nat.reduceLeDiff, Nat.reduceLT]
  · have hi : ¬ cs.length < cs.length := by omega
    simp only [loopN, e_slices_Index_S_int_int_0, B_slices_Index_S_int_int_0, go_sem, Nat.reduceEqDiff, Nat.reduceAdd, reduceIte, reduceCtorEq, Nat.reduceLeDiff, Nat.reduceLT, List.length_map, hi]
    exact ⟨_, rfl, _, rfl⟩
theorem d_Contains {D : Nat} (hD : 2 ≤ D) (x : Int) (cs : List Int) (hl : cs.length ≤ big) : den pr D f_slices_Contains_S_int_int [.lit t_int (cs.map intC), .n x] = some [.q (decide (x ∈ cs))] := by
  obtain ⟨D, rfl, hd⟩ := pred_of hD
  obtain ⟨D, rfl, hd⟩ := pred_of hd
  rw [u_slices_Contains_S_int_int]
  have h : ∃ n : Int, den pr (D + 1) f_slices_Index_S_int_int [.lit t_int (cs.map intC), .n x] = some [.n n] ∧ decide (0 ≤ n) = decide (x ∈ cs) := by
    rw [u_slices_Index_S_int_int, ← in_run x cs 0]
    obtain ⟨out, lo, lp⟩ := lp_IndexInt (D := D) x cs hl
    rw [show ((0 : Nat) : Int) = 0 from rfl] at lo
    cases hr : runI (inG x) 0 () cs with
    | inl _ =>
      rw [hr] at lp
      obtain ⟨σ', rfl⟩ := lp
      simp only [c_slices_Index_S_int_int, go_sem, Nat.reduceEqDiff, Nat.reduceAdd, reduceIte, reduceCtorEq, Nat.reduceLeDiff, Nat.reduceLT, List.length_map, lo]
      exact ⟨_, rfl, by decide⟩
    | inr i =>
      rw [hr] at lp
      obtain ⟨σ', rfl, l2⟩ := lp
      simp only [c_slices_Index_S_int_int, go_sem, Nat.reduceEqDiff, Nat.reduceAdd, reduceIte, reduceCtorEq, Nat.reduceLeDiff, Nat.reduceLT, List.length_map, lo, l2]
      exact ⟨_, rfl, by simp⟩
  obtain ⟨n, h1, h2⟩ := h
  simp only [c_slices_Contains_S_int_int, go_sem, Nat.reduceEqDiff, Nat.reduceAdd, reduceIte, reduceCtorEq, Nat.reduceLeDiff, Nat.reduceLT, h1, h2]
end Go.Vm.T
end

section
set_option linter.unusedVariables false
set_option linter.unusedSectionVars false
set_option linter.unusedSimpArgs false
/- What is asked of a table: the program's. -/
namespace Go.Vm.T
open Go.Proofs
abbrev valsC (vs : List Val) : List A := [.lit t_impl_Val (vs.map Val.c)]
abbrev strC (s : ByteArray) : List A := [.s s]
def askG (t : Tab) (ids : List Int) (i : Nat) (acc : List (List Val)) (id : Int) : List (List Val) ⊕ Unit :=
  match idAt id t.rows with
  | none => .inr ()
  | some k => if id ∈ ids.take i then .inr () else match t.rows[k]? with
    | some r => .inl (acc ++ [nowV t r])
    | none => .inr ()
def plG (s : List ColV) (_ : Nat) (acc : List Int) (nm : ByteArray) : List Int ⊕ Unit :=
  match nmAt nm s with
  | none => .inr ()
  | some k => .inl (acc ++ [(k : Int)])
def RetB (σ' : St) : Prop := ∃ b b', σ'.s 6 = .ref t_S_impl_Val b 0 0 0 false ∧ σ'.h b = some ⟨t_S_impl_Val, [], true, false⟩ ∧ σ'.s 7 = .ref t_int b' 0 0 0 false ∧ σ'.h b' = some ⟨t_int, [], true, false⟩ ∧ b ≠ b' ∧ σ'.s 8 = .q false
abbrev askS (t : Tab) (ids : List Int) (nms : List ByteArray) (i : Nat) (acc : List (List Val)) : St := ⟨upd (upd (upd (upd (upd (upd (upd (fun _ => .bad) 1 (.lit t_int (ids.map intC))) 2 (.lit t_string (nms.map strC))) 3 (.ptr 0 0 0)) 9 (.ref t_S_impl_Val 1 0 acc.length acc.length false)) 21 (.lit t_int (ids.map intC))) 22 (.n ids.length)) 23 (.n i), upd (upd (fun _ => none) 0 (some ⟨t_impl_Table, [t.c], true, true⟩)) 1 (some ⟨t_S_impl_Val, acc.map valsC, true, false⟩), 2, 0⟩
variable [Pr2]
theorem lp_asked0 {D : Nat} (hD : 7 ≤ D) (t : Tab) (T : TabOk t) (ids : List Int) (nms : List ByteArray) (hl : ids.length ≤ big) :
    Ended (loopN (exec ⟨den pr D, dcl pr D⟩ b_impl_asked_0) [1, 2, 3, 9, 21, 22, 23] rounds (askS t ids nms 0 [])) (List (List Val)) Unit (runI (askG t ids) 0 [] ids)
      (fun m o => ∃ σ', o = .exit 0 σ' ∧ σ'.n = 2 ∧ σ'.base = 0 ∧ σ'.s 2 = .lit t_string (nms.map strC) ∧ σ'.s 3 = .ptr 0 0 0 ∧ σ'.s 9 = .ref t_S_impl_Val 1 0 m.length m.length false ∧ σ'.h 0 = some ⟨t_impl_Table, [t.c], true, true⟩ ∧ σ'.h 1 = some ⟨t_S_impl_Val, m.map valsC, true, false⟩) (fun _ o => ∃ σ', o = .ret σ' ∧ RetB σ') := by
  refine loop_all ids (askS t ids nms) (askG t ids) (fun i acc => acc.length = i) _ _ [] rfl hl (fun i acc id K hc hlt hI => ?_) (fun acc K hI => ?_)
  · have hx := map_at (f := intC) hc
    have hw := wrap_nat (n := i) (by unfold big at hl; omega)
    have e1 := d_rowAt (show 3 ≤ D by omega) t id T.once.small.rlen
    unfold idI at e1
    unfold askG
    cases hk : idAt id t.rows with
    | none =>
      rw [hk] at e1
      have hm : (-1 : Int) < 0 := by decide
      simp only [loopN, e_impl_asked_0, B_impl_asked_0, go_sem, Nat.reduceEqDiff, Nat.reduceAdd, reduceIte, reduceCtorEq, Nat.reduceLeDiff, Nat.reduceLT, List.length_map, hx, hlt, hw, e1, hm]
      exact ⟨_, rfl, _, rfl, _, _, rfl, rfl, rfl, rfl, by decide, rfl⟩
    | some k =>
      rw [hk] at e1
      simp only at e1 ⊢
      have hm : ¬ (k : Int) < 0 := by omega
      have hkl := idAt_lt hk
      have hr : t.rows[k]? = some t.rows[k] := List.getElem?_eq_getElem hkl
      have e2 := d_Contains (show 2 ≤ D by omega) id (ids.take i) (by rw [List.length_take]; omega)
      have mt : (ids.take i).map intC = (ids.map intC).take i := List.map_take
      rw [mt] at e2
      have i0 : (0 : Int) ≤ (i : Int) := by omega
      have it : ((i : Int)).toNat = i := by omega
      have hle : i ≤ ids.length := by omega
      by_cases hin : id ∈ ids.take i
      · rw [show decide (id ∈ ids.take i) = true by simp [hin]] at e2
        rw [if_pos hin]
        simp only [loopN, e_impl_asked_0, B_impl_asked_0, go_sem, Nat.reduceEqDiff, Nat.reduceAdd, reduceIte, reduceCtorEq, Nat.reduceLeDiff, Nat.reduceLT, List.length_map, hx, hlt, hw, e1, e2, hm, i0, it, hle, Option.isNone_none, and_self, if_true, Nat.sub_zero, List.drop_zero, Nat.zero_le, Nat.le_refl]
        exact ⟨_, rfl, _, rfl, _, _, rfl, rfl, rfl, rfl, by decide, rfl⟩
      · rw [show decide (id ∈ ids.take i) = false by simp [hin]] at e2
        rw [if_neg hin, hr]
        generalize t.rows[k] = r at hr
        simp only
        have hrx := map_at (f := RowV.c) hr
        have e3 := d_now (show 7 ≤ D by omega) t T.once.small r (T.once.rows r (List.mem_of_getElem? hr))
        have hal : acc.length + 1 ≤ big := by omega
        have hat : (acc.map valsC).take acc.length = acc.map valsC := List.take_of_length_le (by simp)
        have hvt : ((nowV t r).map Val.c).take (nowV t r).length = (nowV t r).map Val.c := List.take_of_length_le (by simp)
        generalize nowV t r = row at *
        have em : (acc ++ [row]).map valsC = acc.map valsC ++ [valsC row] := by simp
        have hax : (acc ++ [row]).length = acc.length + 1 := by simp
        simp only [askS, loopN, e_impl_asked_0, B_impl_asked_0, go_sem, Nat.reduceEqDiff, Nat.reduceAdd, reduceIte, reduceCtorEq, Nat.reduceLeDiff, Nat.reduceLT, List.length_map, hx, hlt, hw, e1, e2, e3, hm, i0, it, hle, hkl, hrx, hal, hat, hvt, em, hax, rowsSl_val, Option.isNone_none, and_self, if_true, Nat.sub_zero, List.drop_zero, Nat.zero_le, Nat.le_refl]
        exact hI
  · have hi : ¬ ids.length < ids.length := by omega
    simp only [loopN, e_impl_asked_0, B_impl_asked_0, go_sem, Nat.reduceEqDiff, Nat.reduceAdd, reduceIte, reduceCtorEq, Nat.reduceLeDiff, Nat.reduceLT, List.length_map, hi]
    exact ⟨_, rfl, _, rfl, rfl, rfl, rfl, rfl, rfl, rfl, rfl⟩
abbrev plS (sh : List ColV) (rows : List (List Val)) (nms : List ByteArray) (i : Nat) (acc : List Int) : St := ⟨upd (upd (upd (upd (upd (upd (fun _ => .bad) 9 (.ref t_S_impl_Val 0 0 rows.length rows.length false)) 13 (.ref t_int 1 0 acc.length acc.length false)) 14 (.ref t_impl_Col 2 0 sh.length sh.length false)) 53 (.lit t_string (nms.map strC))) 54 (.n nms.length)) 55 (.n i), upd (upd (upd (fun _ => none) 0 (some ⟨t_S_impl_Val, rows.map valsC, true, false⟩)) 1 (some ⟨t_int, acc.map intC, true, false⟩)) 2 (some ⟨t_impl_Col, sh.map ColV.c, true, false⟩), 3, 0⟩
theorem lp_asked1 {D : Nat} (hD : 3 ≤ D) (sh : List ColV) (hs : SmallC sh) (rows : List (List Val)) (nms : List ByteArray) (hl : nms.length ≤ big) :
    Ended (loopN (exec ⟨den pr D, dcl pr D⟩ b_impl_asked_1) [9, 13, 14, 53, 54, 55] rounds (plS sh rows nms 0 [])) (List Int) Unit (runI (plG sh) 0 [] nms)
      (fun m o => ∃ σ', o = .exit 2 σ' ∧ σ'.s 9 = .ref t_S_impl_Val 0 0 rows.length rows.length false ∧ σ'.s 13 = .ref t_int 1 0 m.length m.length false ∧ σ'.h 0 = some ⟨t_S_impl_Val, rows.map valsC, true, false⟩ ∧ σ'.h 1 = some ⟨t_int, m.map intC, true, false⟩) (fun _ o => ∃ σ', o = .ret σ' ∧ RetB σ') := by
  refine loop_all nms (plS sh rows nms) (plG sh) (fun i acc => acc.length = i) _ _ [] rfl hl (fun i acc nm K hc hlt hI => ?_) (fun acc K hI => ?_)
  · have hx := map_at (f := strC) hc
    have hw := wrap_nat (n := i) (by unfold big at hl; omega)
    have e1 := d_colAt (show 3 ≤ D by omega) nm sh hs.len
    have hst : (sh.map ColV.c).take sh.length = sh.map ColV.c := List.take_of_length_le (by simp)
    unfold nmI at e1
    unfold plG
    cases hk : nmAt nm sh with
    | none =>
      rw [hk] at e1
      have hm : (-1 : Int) < 0 := by decide
      simp only [loopN, e_impl_asked_1, B_impl_asked_1, go_sem, Nat.reduceEqDiff, Nat.reduceAdd, reduceIte, reduceCtorEq, Nat.reduceLeDiff, Nat.reduceLT, List.length_map, hx, hlt, hw, e1, hm, hst, rowsSl_col, Nat.le_refl]
      exact ⟨_, rfl, _, rfl, _, _, rfl, rfl, rfl, rfl, by decide, rfl⟩
    | some k =>
      rw [hk] at e1
      simp only at e1 ⊢
      have hm : ¬ (k : Int) < 0 := by omega
      have hal : acc.length + 1 ≤ big := by omega
      have hat : (acc.map intC).take acc.length = acc.map intC := List.take_of_length_le (by simp)
      have em : (acc ++ [(k : Int)]).map intC = acc.map intC ++ [intC (k : Int)] := by simp
      have hax : (acc ++ [(k : Int)]).length = acc.length + 1 := by simp
      simp only [plS, loopN, e_impl_asked_1, B_impl_asked_1, go_sem, Nat.reduceEqDiff, Nat.reduceAdd, reduceIte, reduceCtorEq, Nat.reduceLeDiff, Nat.reduceLT, List.length_map, hx, hlt, hw, e1, hm, hst, hal, hat, em, hax, rowsSl_col, and_self, if_true, Nat.le_refl]
      exact hI
  · have hi : ¬ nms.length < nms.length := by omega
    simp only [loopN, e_impl_asked_1, B_impl_asked_1, go_sem, Nat.reduceEqDiff, Nat.reduceAdd, reduceIte, reduceCtorEq, Nat.reduceLeDiff, Nat.reduceLT, List.length_map, hi]
    exact ⟨_, rfl, _, rfl, rfl, rfl, rfl, rfl⟩
def askedP (t : Tab) (ids : List Int) (nms : List ByteArray) : Option (List (List Val) × List Int) :=
  if tableOk t = true then match runI (askG t ids) 0 [] ids with
    | .inl rs => match runI (plG (shapeT t)) 0 [] nms with
      | .inl ps => some (rs, ps)
      | .inr _ => none
    | .inr _ => none
  else none
def askedR : Option (List (List Val) × List Int) → List A
  | some (rs, ps) => [.olit t_S_impl_Val (rs.map valsC), .olit t_int (ps.map intC), .q true]
  | none => [.olit t_S_impl_Val [], .olit t_int [], .q false]
theorem d_asked {D : Nat} (hD : 10 ≤ D) (t : Tab) (ht : SmallT t) (ids : List Int) (nms : List ByteArray) (hl : ids.length ≤ big) (hn : nms.length ≤ big) :
    den pr D f_impl_asked [.agg t.c, .lit t_int (ids.map intC), .lit t_string (nms.map strC)] = some (askedR (askedP t ids nms)) := by
  obtain ⟨D, rfl, hd⟩ := pred_of hD
  rw [u_impl_asked]
  have e1 := d_TableOk (show 9 ≤ D by omega) t ht
  have e2 := d_shape (show 7 ≤ D by omega) t ht
  have e2' : den pr D f_impl_Table_shape [.agg t.c] = some [.olit t_impl_Col ((shapeT t).map ColV.c)] := e2
  unfold askedP
  cases h1 : tableOk t with
  | false =>
    rw [h1] at e1
    simp only [c_impl_asked, go_sem, Nat.reduceEqDiff, Nat.reduceAdd, reduceIte, reduceCtorEq, Nat.reduceLeDiff, Nat.reduceLT, e1, Bool.false_eq_true, if_false, askedR]
  | true =>
    rw [h1] at e1
    have T := tabOk_of ht h1
    have hsh := (shape_small T.shape).1
    obtain ⟨out, lo, lp⟩ := lp_asked0 (show 7 ≤ D by omega) t T ids nms hl
    simp only [askS, List.length_nil, List.map_nil] at lo
    rw [show ((0 : Nat) : Int) = 0 from rfl] at lo
    cases hr : runI (askG t ids) 0 [] ids with
    | inr u =>
      rw [hr] at lp
      obtain ⟨σ', rfl, R⟩ := lp
      obtain ⟨b, b', r1, r2, r3, r4, r5, r6⟩ := R
      have r5' : ¬ b' = b := fun q => r5 q.symm
      simp only [c_impl_asked, go_sem, Nat.reduceEqDiff, Nat.reduceAdd, reduceIte, reduceCtorEq, Nat.reduceLeDiff, Nat.reduceLT, e1, List.length_map, lo, r1, r2, r3, r4, r5', r6, if_true, askedR]
    | inl rs =>
      rw [hr] at lp
      obtain ⟨σ', rfl, m1, m2, l1, l2, l3, l4, l5⟩ := lp
      obtain ⟨out, lo2, lp2⟩ := lp_asked1 (show 3 ≤ D by omega) (shapeT t) hsh rs nms hn
      simp only [plS, List.length_nil, List.map_nil] at lo2
      rw [show ((0 : Nat) : Int) = 0 from rfl] at lo2
      cases hr2 : runI (plG (shapeT t)) 0 [] nms with
      | inr u =>
        rw [hr2] at lp2
        obtain ⟨σ2, rfl, R⟩ := lp2
        obtain ⟨b, b', r1, r2, r3, r4, r5, r6⟩ := R
        have r5' : ¬ b' = b := fun q => r5 q.symm
        simp only [c_impl_asked, go_sem, Nat.reduceEqDiff, Nat.reduceAdd, reduceIte, reduceCtorEq, Nat.reduceLeDiff, Nat.reduceLT, e1, e2', List.length_map, lo, m1, m2, l1, l2, l3, l4, l5, lo2, r1, r2, r3, r4, r5', r6, if_true, rowsSl_col, askedR]
      | inl ps =>
        rw [hr2] at lp2
        obtain ⟨σ2, rfl, k1, k2, k3, k4⟩ := lp2
        simp only [c_impl_asked, go_sem, Nat.reduceEqDiff, Nat.reduceAdd, reduceIte, reduceCtorEq, Nat.reduceLeDiff, Nat.reduceLT, e1, e2', List.length_map, lo, m1, m2, l1, l2, l3, l4, l5, lo2, k1, k2, k3, k4, if_true, rowsSl_col, askedR]
end Go.Vm.T
end

section
set_option linter.unusedVariables false
set_option linter.unusedSectionVars false
set_option linter.unusedSimpArgs false
/- Sums: the program's. -/
namespace Go.Vm.T
open Go.Proofs
def sumV (b : Int × Int) (v : Val) : Int × Int := if v.k = 1 then (IntKind.i64.wrap (b.1 + 1), IntKind.i64.wrap (b.2 + v.n)) else b
def sumP (vs : List Val) : Int × Int := vs.foldl sumV (0, 0)
def sumG (k : Nat) (_ : Nat) (b : Int × Int) (row : List Val) : (Int × Int) ⊕ Unit := .inl (sumV b (row.getD k zV))
theorem sum_run (k : Nat) : ∀ (rs : List (List Val)) (i : Nat) (b : Int × Int), runI (sumG k) i b rs = .inl ((rs.map fun r => r.getD k zV).foldl sumV b)
  | [], i, b => rfl
  | r :: rs, i, b => sum_run k rs (i + 1) _
abbrev sumS (ps : List Int) (rs : List (List Val)) (i : Nat) (b : Int × Int) : St := ⟨upd (upd (upd (upd (upd (upd (fun _ => .bad) 9 (.ref t_int 0 0 ps.length ps.length false)) 11 (.n b.1)) 12 (.n b.2)) 27 (.ref t_S_impl_Val 1 0 rs.length rs.length false)) 28 (.n rs.length)) 29 (.n i), upd (upd (fun _ => none) 0 (some ⟨t_int, ps.map intC, true, false⟩)) 1 (some ⟨t_S_impl_Val, rs.map valsC, true, false⟩), 2, 0⟩
variable [Pr2]
theorem lp_AskSum (E : Env) (k : Nat) (ps : List Int) (rs : List (List Val)) (hr : ∀ r ∈ rs, k < r.length) (hl : rs.length ≤ big) :
    Ended (loopN (exec E b_impl_AskSum_0) [9, 11, 12, 27, 28, 29] rounds (sumS ((k : Int) :: ps) rs 0 (0, 0))) (Int × Int) Unit (runI (sumG k) 0 (0, 0) rs)
      (fun b o => ∃ σ', o = .exit 0 σ' ∧ σ'.s 11 = .n b.1 ∧ σ'.s 12 = .n b.2) (fun _ o => False) := by
  refine loop_all rs (sumS ((k : Int) :: ps) rs) (sumG k) (fun _ _ => True) _ _ (0, 0) trivial hl (fun i b row K hc hlt hI => ?_) (fun b K hI => ?_)
  · have hx := map_at (f := valsC) hc
    have hw := wrap_nat (n := i) (by unfold big at hl; omega)
    have hkl := hr row (List.mem_of_getElem? hc)
    have hv : row[k]? = some (row.getD k zV) := by rw [List.getD_eq_getElem?_getD, List.getElem?_eq_getElem hkl, Option.getD_some]
    unfold sumG sumV
    generalize row.getD k zV = v at hv
    have hvx := map_at (f := Val.c) hv
    have k0 : (0 : Int) ≤ (k : Int) := by omega
    have kt : ((k : Int)).toNat = k := by omega
    have h0 : Int.toNat 0 = 0 := rfl
    have h0i : (0 : Int) ≤ 0 := Int.le_refl 0
    have hpos : (0 : Int) < ((ps.length + 1 : Nat) : Int) := by omega
    have hp' : (intC (k : Int) :: ps.map intC)[0]? = some (intC (k : Int)) := rfl
    have hp : (((k : Int) :: ps).map intC)[0]? = some (intC (k : Int)) := rfl
    rcases pf (v.k = 1) with h1 | h1
    · simp only [sumS, loopN, e_impl_AskSum_0, B_impl_AskSum_0, go_sem, Nat.reduceEqDiff, Nat.reduceAdd, reduceIte, reduceCtorEq, Nat.reduceLeDiff, Nat.reduceLT, List.length_map, hx, hlt, hw, hkl, hvx, k0, kt, h0, h0i, hpos, hp, hp', h1, and_self, if_true, List.length_cons, Nat.zero_lt_succ]
    · simp only [sumS, loopN, e_impl_AskSum_0, B_impl_AskSum_0, go_sem, Nat.reduceEqDiff, Nat.reduceAdd, reduceIte, reduceCtorEq, Nat.reduceLeDiff, Nat.reduceLT, List.length_map, hx, hlt, hw, hkl, hvx, k0, kt, h0, h0i, hpos, hp, hp', h1, and_self, if_false, List.length_cons, Nat.zero_lt_succ]
  · have hi : ¬ rs.length < rs.length := by omega
    simp only [sumS, loopN, e_impl_AskSum_0, B_impl_AskSum_0, go_sem, Nat.reduceEqDiff, Nat.reduceAdd, reduceIte, reduceCtorEq, Nat.reduceLeDiff, Nat.reduceLT, List.length_map, hi]
    exact ⟨_, rfl, _, rfl, rfl, rfl⟩
theorem ask_rows {t : Tab} {ids : List Int} : ∀ {l : List Int} {i : Nat} {acc rs : List (List Val)}, runI (askG t ids) i acc l = .inl rs → (∀ r ∈ acc, ∃ x ∈ t.rows, r = nowV t x) → ∀ r ∈ rs, ∃ x ∈ t.rows, r = nowV t x
  | [], i, acc, rs, h, ha => by cases h; exact ha
  | id :: l, i, acc, rs, h, ha => by
    unfold runI askG at h
    cases hk : idAt id t.rows with
    | none => rw [hk] at h; cases h
    | some k =>
      rw [hk] at h
      simp only at h
      by_cases hin : id ∈ ids.take i
      · rw [if_pos hin] at h; cases h
      · rw [if_neg hin] at h
        cases hr : t.rows[k]? with
        | none => rw [hr] at h; cases h
        | some r =>
          rw [hr] at h
          exact ask_rows h (fun q hq => by
            rcases List.mem_append.1 hq with hq | hq
            · exact ha q hq
            · exact ⟨r, List.mem_of_getElem? hr, List.mem_singleton.1 hq⟩)
theorem ask_len {t : Tab} {ids : List Int} : ∀ {l : List Int} {i : Nat} {acc rs : List (List Val)}, runI (askG t ids) i acc l = .inl rs → rs.length = acc.length + l.length
  | [], i, acc, rs, h => by cases h; rfl
  | id :: l, i, acc, rs, h => by
    unfold runI askG at h
    cases hk : idAt id t.rows with
    | none => rw [hk] at h; cases h
    | some k =>
      rw [hk] at h
      simp only at h
      by_cases hin : id ∈ ids.take i
      · rw [if_pos hin] at h; cases h
      · rw [if_neg hin] at h
        cases hr : t.rows[k]? with
        | none => rw [hr] at h; cases h
        | some r =>
          rw [hr] at h
          have := ask_len h
          simp at this ⊢
          omega
def askSum (t : Tab) (ids : List Int) (nm : ByteArray) : Int × Int := match askedP t ids [nm] with
  | some (rs, p :: _) => sumP (rs.map fun r => r.getD p.toNat zV)
  | _ => (0, 0)
theorem d_AskSum {D : Nat} (hD : 11 ≤ D) (t : Tab) (ht : SmallT t) (ids : List Int) (nm : ByteArray) (hl : ids.length ≤ big) :
    den pr D f_impl_AskSum [.agg t.c, .lit t_int (ids.map intC), .s nm] = some [.n (askSum t ids nm).1, .n (askSum t ids nm).2] := by
  obtain ⟨D, rfl, hd⟩ := pred_of hD
  rw [u_impl_AskSum]
  have e1 := d_asked (show 10 ≤ D by omega) t ht ids [nm] hl (by unfold big; simp)
  simp only [List.map_cons, List.map_nil] at e1
  unfold askSum
  cases hq : askedP t ids [nm] with
  | none =>
    rw [hq] at e1
    simp only [askedR] at e1
    simp only [c_impl_AskSum, go_sem, Nat.reduceEqDiff, Nat.reduceAdd, reduceIte, reduceCtorEq, Nat.reduceLeDiff, Nat.reduceLT, e1, List.length_map]
  | some q =>
    obtain ⟨rs, ps⟩ := q
    rw [hq] at e1
    simp only [askedR] at e1
    unfold askedP at hq
    split at hq
    · rename_i hok
      have T := tabOk_of ht hok
      split at hq
      · rename_i rs' hrs
        split at hq
        · rename_i ps' hps
          cases hq
          have hk : ∃ k : Nat, ps = [(k : Int)] ∧ k < (shapeT t).length := by
            unfold runI plG at hps
            cases hk : nmAt nm (shapeT t) with
            | none => rw [hk] at hps; cases hps
            | some k => rw [hk] at hps; cases hps; exact ⟨k, rfl, nmAt_lt hk⟩
          obtain ⟨k, rfl, hkl⟩ := hk
          have hrl : ∀ r ∈ rs, k < r.length := fun r hr => by
            obtain ⟨x, hx, rfl⟩ := ask_rows hrs (fun _ h => by simp at h) r hr
            rw [now_len (T.once.rows x hx)]
            exact hkl
          have hlen := ask_len hrs
          simp only [List.length_nil, Nat.zero_add] at hlen
          obtain ⟨out, lo, lp⟩ := lp_AskSum ⟨den pr D, dcl pr D⟩ k [] rs hrl (by omega)
          simp only [sumS] at lo
          rw [show ((0 : Nat) : Int) = 0 from rfl] at lo
          rw [sum_run] at lp
          obtain ⟨σ', rfl, l1, l2⟩ := lp
          have kt : ((k : Int)).toNat = k := by omega
          simp only [List.map_cons, List.map_nil, List.length_cons, List.length_nil, Nat.zero_add] at lo e1
          simp only [c_impl_AskSum, go_sem, Nat.reduceEqDiff, Nat.reduceAdd, reduceIte, reduceCtorEq, Nat.reduceLeDiff, Nat.reduceLT, e1, List.length_map, lo, l1, l2, kt, sumP, List.length_cons, List.length_nil]
        · cases hq
      · cases hq
    · cases hq
end Go.Vm.T
end
