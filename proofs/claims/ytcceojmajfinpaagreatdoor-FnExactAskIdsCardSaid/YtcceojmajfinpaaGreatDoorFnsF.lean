/-
  A table that is right and what is asked, of the program's
-/
import Derived.Test.YtcceojmajfinpaaGreatDoorFnsE
section
set_option linter.unusedVariables false
set_option linter.unusedSectionVars false
set_option linter.unusedSimpArgs false
/- A table that is right: the program's. -/
namespace Go.Vm.T
open Go.Proofs
def tabRG (t : Tab) (_ : Nat) (last : Int) (r : RowV) : Int ⊕ Unit :=
  bif inB r.id (last + 1) (t.next - 1) && (inB r.ver 0 t.chg.length && (rowOk ((chgs t.first (t.chg.take r.ver.toNat)).getD []) r.vals && rowOk (shapeT t) (nowV t r))) then .inl r.id else .inr ()
def rowsB (t : Tab) : Bool := match runI (tabRG t) 0 0 t.rows with | .inl _ => true | .inr _ => false
def tableOk (t : Tab) : Bool := (shAll t.first t.chg).isSome && (decide (t.chg.length ≤ 8) && (decide (t.rows.length ≤ 8) && (inB t.next 1 60 && (rowsB t && tabB t))))
def jk : Option A → A
  | some a => .ifg false a
  | none => .und
theorem underS_jk (σ : St) (d : Option Nat) (o : Option A) (k : Option St) : underS false σ d o k = some ⟨put σ.s d (jk o), σ.h, σ.n, σ.base⟩ := by cases o <;> rfl
theorem underV_jk (σ : St) (d : Option Nat) (o : Option A) : underV false σ d o = some ⟨put σ.s d (jk o), σ.h, σ.n, σ.base⟩ := by cases o <;> rfl
theorem opQ_f (a : A) : ∃ q, opQ false a = some q := by
  unfold opQ
  split
  · exact ⟨_, rfl⟩
  · exact ⟨_, rfl⟩
  · exact ⟨_, rfl⟩
theorem bq {β : Type} (X a : A) (f : A → Option β) : bnd (bnd (opQ false X) fun _ => some a) f = f a := by
  obtain ⟨q, hq⟩ := opQ_f X
  rw [hq]
  rfl
variable [Pr2]
def g86 : List G := [.g 81 false (.call (some 86) 1 0 f_impl_rowOk [(.t 82), (.t 85)]), .g 81 false (.un 87 .not (.t 86)), .o (.pick 88 (.t 81) (.k (.v (.bool true))) (.t 87))]
def tl85 (E : Env) (σ : St) (o : Option A) : Nat → A := match bnd (underS false σ (some 85) o none) (steps E 1 g86) with | some τ => τ.s | none => σ.s
theorem tail85 (E : Env) (σ : St) (o : Option A) (k : Option St) (h : σ.s 81 = .q true) : bnd (underS false σ (some 85) o k) (steps E 1 [.g 81 false (.call (some 86) 1 0 f_impl_rowOk [(.t 82), (.t 85)]), .g 81 false (.un 87 .not (.t 86)), .o (.pick 88 (.t 81) (.k (.v (.bool true))) (.t 87))]) = some ⟨upd (tl85 E σ o) 88 (.q true), σ.h, σ.n, σ.base⟩ := by
  have key : ∃ f, bnd (underS false σ (some 85) o none) (steps E 1 g86) = some ⟨upd f 88 (.q true), σ.h, σ.n, σ.base⟩ := by
    rw [underS_jk]
    obtain ⟨s, hp, n, b⟩ := σ
    simp only at h
    simp only [g86, go_sem, h, underS_jk, underV_jk]
    rw [bq]
    exact ⟨_, rfl⟩
  obtain ⟨f, hf⟩ := key
  have : tl85 E σ o = upd f 88 (.q true) := by unfold tl85; rw [hf]
  rw [this, underS_jk, ← underS_jk _ _ _ none]
  rw [show upd (upd f 88 (.q true)) 88 (.q true) = upd f 88 (.q true) from by funext i; simp only [upd_apply]; split <;> rfl]
  exact hf
theorem rowOk_len {s : List ColV} {row : List Val} (h : rowOk s row = true) : row.length = s.length := by
  unfold rowOk at h
  simp at h
  exact h.1
structure RowF (D : Nat) (t : Tab) (m : Int) (i v : Nat) (rid : Int) (rvals : List Val) (s : List ColV) : Prop where
  hr : (t.rows.map RowV.c)[i]? = some (RowV.mk rid v rvals).c
  hlt : i < t.rows.length
  hw : IntKind.i64.wrap ((i : Int) + 1) = ((i + 1 : Nat) : Int)
  hw1 : IntKind.i64.wrap (m + 1) = m + 1
  hw2 : IntKind.i64.wrap (t.next - 1) = t.next - 1
  e1 : den pr D f_impl_in [.n rid, .n (m + 1), .n (t.next - 1)] = some [.q true]
  e2 : den pr D f_impl_in [.n v, .n 0, .n t.chg.length] = some [.q true]
  e3 : den pr D f_impl_changes [.lit t_impl_Col (t.first.map ColV.c), .lit t_impl_Change ((t.chg.map Chg.c).take v)] = some [.olit t_impl_Col (s.map ColV.c), .q true]
  v0 : (0 : Int) ≤ (v : Int)
  vt : ((v : Int)).toNat = v
  hvl : v ≤ t.chg.length
  hts : (s.map ColV.c).take s.length = s.map ColV.c
  htf : List.take t.chg.length (List.map Chg.c t.chg) = List.map Chg.c t.chg
abbrev headS (t : Tab) (i : Nat) (m : Int) : St := ⟨upd (upd (upd (upd (upd (upd (fun _ => .bad) 1 (.ptr 0 0 0)) 3 (.ref t_impl_Col 1 0 (shapeT t).length (shapeT t).length false)) 5 (.n m)) 39 (.lit t_impl_Row (t.rows.map RowV.c))) 40 (.n t.rows.length)) 41 (.n i), upd (upd (fun _ => none) 0 (some ⟨t_impl_Table, [t.c], true, true⟩)) 1 (some ⟨t_impl_Col, (shapeT t).map ColV.c, true, false⟩), 2, 0⟩
theorem step_f {D : Nat} {t : Tab} {m : Int} {i v : Nat} {rid : Int} {rvals : List Val} {s : List ColV} (F : RowF D t m i v rid rvals s) (e4 : den pr D f_impl_rowOk [.lit t_impl_Col (s.map ColV.c), .lit t_impl_Val (rvals.map Val.c)] = some [.q false]) (K : Nat) :
    ∃ out, loopN (exec ⟨den pr D, dcl pr D⟩ b_impl_TableOk_0) [1, 3, 5, 39, 40, 41] (K + 1) (headS t i m) = some out ∧ ∃ σ', out = .ret σ' ∧ σ'.s 2 = .q false := by
  obtain ⟨hr, hlt, hw, hw1, hw2, e1, e2, e3, v0, vt, hvl, hts, htf⟩ := F
  simp only [loopN, e_impl_TableOk_0, B_impl_TableOk_0, go_sem, List.length_map, hr, hlt, hw, hw1, hw2, e1, e2, e3, e4, v0, vt, hvl, hts, htf, tail85, rowsSl_col, Nat.le_refl, Nat.zero_le, Option.isNone_none, and_self, if_true, List.drop_zero, Nat.sub_zero]
  exact ⟨_, rfl, _, rfl, rfl⟩
theorem step_t {D : Nat} {t : Tab} {m : Int} {i v : Nat} {rid : Int} {rvals : List Val} {s : List ColV} (F : RowF D t m i v rid rvals s) (e4 : den pr D f_impl_rowOk [.lit t_impl_Col (s.map ColV.c), .lit t_impl_Val (rvals.map Val.c)] = some [.q true])
    (row : List Val) (e5 : den pr D f_q34 [.agg t.c, .agg (RowV.mk rid v rvals).c] = some [.olit t_impl_Val (row.map Val.c)]) (e6 : den pr D f_impl_rowOk [.lit t_impl_Col ((shapeT t).map ColV.c), .lit t_impl_Val (row.map Val.c)] = some [.q true]) (K : Nat) :
    loopN (exec ⟨den pr D, dcl pr D⟩ b_impl_TableOk_0) [1, 3, 5, 39, 40, 41] (K + 1) (headS t i m) = loopN (exec ⟨den pr D, dcl pr D⟩ b_impl_TableOk_0) [1, 3, 5, 39, 40, 41] K (headS t (i + 1) rid) := by
  obtain ⟨hr, hlt, hw, hw1, hw2, e1, e2, e3, v0, vt, hvl, hts, htf⟩ := F
  have htn : (row.map Val.c).take row.length = row.map Val.c := List.take_of_length_le (by simp)
  have htsh : ((shapeT t).map ColV.c).take (shapeT t).length = (shapeT t).map ColV.c := List.take_of_length_le (by simp)
  simp only [loopN, e_impl_TableOk_0, B_impl_TableOk_0, go_sem, List.length_map, hr, hlt, hw, hw1, hw2, e1, e2, e3, e4, e5, e6, v0, vt, hvl, hts, htf, htn, htsh, rowsSl_col, rowsSl_val, Nat.le_refl, Nat.zero_le, Option.isNone_none, and_self, if_true, List.drop_zero, Nat.sub_zero]
theorem step_n {D : Nat} {t : Tab} {m : Int} {i v : Nat} {rid : Int} {rvals : List Val} {s : List ColV} (F : RowF D t m i v rid rvals s) (e4 : den pr D f_impl_rowOk [.lit t_impl_Col (s.map ColV.c), .lit t_impl_Val (rvals.map Val.c)] = some [.q true])
    (row : List Val) (e5 : den pr D f_q34 [.agg t.c, .agg (RowV.mk rid v rvals).c] = some [.olit t_impl_Val (row.map Val.c)]) (e6 : den pr D f_impl_rowOk [.lit t_impl_Col ((shapeT t).map ColV.c), .lit t_impl_Val (row.map Val.c)] = some [.q false]) (K : Nat) :
    ∃ out, loopN (exec ⟨den pr D, dcl pr D⟩ b_impl_TableOk_0) [1, 3, 5, 39, 40, 41] (K + 1) (headS t i m) = some out ∧ ∃ σ', out = .ret σ' ∧ σ'.s 2 = .q false := by
  obtain ⟨hr, hlt, hw, hw1, hw2, e1, e2, e3, v0, vt, hvl, hts, htf⟩ := F
  have htn : (row.map Val.c).take row.length = row.map Val.c := List.take_of_length_le (by simp)
  have htsh : ((shapeT t).map ColV.c).take (shapeT t).length = (shapeT t).map ColV.c := List.take_of_length_le (by simp)
  simp only [loopN, e_impl_TableOk_0, B_impl_TableOk_0, go_sem, List.length_map, hr, hlt, hw, hw1, hw2, e1, e2, e3, e4, e5, e6, v0, vt, hvl, hts, htf, htn, htsh, rowsSl_col, rowsSl_val, Nat.le_refl, Nat.zero_le, Option.isNone_none, and_self, if_true, List.drop_zero, Nat.sub_zero]
  exact ⟨_, rfl, _, rfl, rfl⟩
theorem lp_TableOk {D : Nat} (hD : 8 ≤ D) (t : Tab) (ht : SmallT t) (hn : 1 ≤ t.next ∧ t.next ≤ 60) (hall : (chgs t.first t.chg).isSome = true) :
    Ended (loopN (exec ⟨den pr D, dcl pr D⟩ b_impl_TableOk_0) [1, 3, 5, 39, 40, 41] rounds ⟨upd (upd (upd (upd (upd (upd (fun _ => .bad) 1 (.ptr 0 0 0)) 3 (.ref t_impl_Col 1 0 (shapeT t).length (shapeT t).length false)) 5 (.n 0)) 39 (.lit t_impl_Row (t.rows.map RowV.c))) 40 (.n t.rows.length)) 41 (.n (0 : Nat)), upd (upd (fun _ => none) 0 (some ⟨t_impl_Table, [t.c], true, true⟩)) 1 (some ⟨t_impl_Col, (shapeT t).map ColV.c, true, false⟩), 2, 0⟩) Int Unit (runI (tabRG t) 0 0 t.rows)
      (fun m o => ∃ σ', o = .exit 0 σ' ∧ σ'.s 1 = .ptr 0 0 0 ∧ σ'.h 0 = some ⟨t_impl_Table, [t.c], true, true⟩) (fun _ o => ∃ σ', o = .ret σ' ∧ σ'.s 2 = .q false) := by
  refine loop_all t.rows (fun i (m : Int) => ⟨upd (upd (upd (upd (upd (upd (fun _ => .bad) 1 (.ptr 0 0 0)) 3 (.ref t_impl_Col 1 0 (shapeT t).length (shapeT t).length false)) 5 (.n m)) 39 (.lit t_impl_Row (t.rows.map RowV.c))) 40 (.n t.rows.length)) 41 (.n i), upd (upd (fun _ => none) 0 (some ⟨t_impl_Table, [t.c], true, true⟩)) 1 (some ⟨t_impl_Col, (shapeT t).map ColV.c, true, false⟩), 2, 0⟩) (tabRG t) (fun _ m => 0 ≤ m ∧ m ≤ 60) _ _ 0 ⟨by omega, by omega⟩ ht.rlen (fun i m r K hc hlt hI => ?_) (fun m K hI => ?_)
  · have hr := map_at (f := RowV.c) hc
    have hw := wrap_nat (n := i) (by have := ht.rlen; unfold big at this; omega)
    have hw1 : IntKind.i64.wrap (m + 1) = m + 1 := wrap_i64 (by omega) (by omega)
    have hw2 : IntKind.i64.wrap (t.next - 1) = t.next - 1 := wrap_i64 (by omega) (by omega)
    have e1 := d_in (show 1 ≤ D by omega) r.id (m + 1) (t.next - 1)
    have e2 := d_in (show 1 ≤ D by omega) r.ver 0 t.chg.length
    have hv := ht.vals r (List.mem_of_getElem? hc)
    unfold tabRG
    cases p1 : inB r.id (m + 1) (t.next - 1) with
    | false =>
      rw [p1] at e1
      simp only [loopN, e_impl_TableOk_0, B_impl_TableOk_0, go_sem, List.length_map, hr, hlt, hw, hw1, hw2, e1, e2]
      exact ⟨_, rfl, _, rfl, rfl⟩
    | true =>
      rw [p1] at e1
      cases p2 : inB r.ver 0 t.chg.length with
      | false =>
        rw [p2] at e2
        simp only [loopN, e_impl_TableOk_0, B_impl_TableOk_0, go_sem, List.length_map, hr, hlt, hw, hw1, hw2, e1, e2]
        exact ⟨_, rfl, _, rfl, rfl⟩
      | true =>
        rw [p2] at e2
        obtain ⟨v, hver⟩ : ∃ v : Nat, r.ver = v := ⟨r.ver.toNat, by unfold inB at p2; simp at p2; omega⟩
        have hvl : v ≤ t.chg.length := by unfold inB at p2; simp at p2; omega
        have hvt : r.ver.toNat = v := by omega
        have hap := chgs_app t.first (t.chg.take v) (t.chg.drop v)
        rw [List.take_append_drop] at hap
        obtain ⟨rid, rver, rvals⟩ := r
        simp only at hver hv e1 e2 p1 p2 hvt hr ⊢
        subst hver
        obtain ⟨s, hs⟩ : ∃ s, chgs t.first (t.chg.take v) = some s := by
          cases hq : chgs t.first (t.chg.take v) with
          | some s => exact ⟨s, rfl⟩
          | none => rw [hq] at hap; rw [hap] at hall; cases hall
        have hg := ht.glen
        have e3 := d_changes (show 6 ≤ D by omega) t.first (t.chg.take v) ht.cols ht.clen (fun c hc => ht.chg c (List.mem_of_mem_take hc)) (by rw [List.length_take]; omega)
        rw [hvt, hs]
        rw [hs] at e3
        simp only [Option.getD_some, Option.isSome_some] at e3 ⊢
        have e4 := d_rowOk (show 3 ≤ D by omega) s rvals hv.1 (by omega)
        have m1 : (t.chg.take v).map Chg.c = (t.chg.map Chg.c).take v := List.map_take
        rw [m1] at e3
        have v0 : (0 : Int) ≤ (v : Int) := by omega
        have vt : ((v : Int)).toNat = v := by omega
        have hts : (s.map ColV.c).take s.length = s.map ColV.c := List.take_of_length_le (by simp)
        have htf : List.take t.chg.length (List.map Chg.c t.chg) = List.map Chg.c t.chg := List.take_of_length_le (by simp)
        have F : RowF D t m i v rid rvals s := ⟨hr, hlt, hw, hw1, hw2, e1, e2, e3, v0, vt, hvl, hts, htf⟩
        cases p3 : rowOk s rvals with
        | false =>
          rw [p3] at e4
          exact step_f F e4 K
        | true =>
          rw [p3] at e4
          have hN : NowOk t ⟨rid, v, rvals⟩ := ⟨v0, by show (v : Int) ≤ _; omega, hall, by show rvals.length = ((chgs t.first (t.chg.take ((v : Int)).toNat)).getD []).length; rw [hvt, hs]; exact rowOk_len p3, hv.1⟩
          have e5 := d_now (show 7 ≤ D by omega) t ht ⟨rid, v, rvals⟩ hN
          have hns := rowsA_small (s := s) (cs := t.chg.drop v) hv.1 (fun c hc => ht.chg c (List.mem_of_mem_drop hc))
          have hnl := now_len hN
          have hsn : nowV t ⟨rid, v, rvals⟩ = rowsA s (t.chg.drop v) rvals := by unfold nowV; simp only [hvt, hs, Option.getD_some]
          have e6 := d_rowOk (show 3 ≤ D by omega) (shapeT t) (nowV t ⟨rid, v, rvals⟩) (by rw [hsn]; exact hns) (by
            rw [hnl]
            obtain ⟨s', hs'⟩ := Option.isSome_iff_exists.1 hall
            have := (chgs_small ⟨ht.cols, ht.clen⟩ hs').2
            unfold shapeT
            rw [hs']
            simp only [Option.getD_some]; omega)
          have hidb : 0 ≤ rid ∧ rid ≤ 60 := by unfold inB at p1; simp at p1; omega
          cases p4 : rowOk (shapeT t) (nowV t ⟨rid, v, rvals⟩) with
          | false =>
            rw [p4] at e6
            exact step_n F e4 _ e5 e6 K
          | true =>
            rw [p4] at e6
            exact ⟨step_t F e4 _ e5 e6 K, hidb⟩
  · have hi : ¬ t.rows.length < t.rows.length := by omega
    simp only [loopN, e_impl_TableOk_0, B_impl_TableOk_0, go_sem, List.length_map, hi]
    exact ⟨_, rfl, _, rfl, rfl, rfl⟩
end Go.Vm.T

/- TableOk, rows by their numbers, and what is asked: the program's. -/
namespace Go.Vm.T
open Go.Proofs
variable [Pr2]
theorem rowsB_at {t : Tab} {m : Int} : ∀ {rs : List RowV} {i : Nat} {last : Int}, runI (tabRG t) i last rs = .inl m → (chgs t.first t.chg).isSome = true → (∀ r ∈ rs, SmallR r.vals) → ∀ r ∈ rs, NowOk t r
  | [], i, last, _, _, _, r, h => by simp at h
  | x :: rs, i, last, hr, hall, hv, r, h => by
    unfold runI tabRG at hr
    cases hq : inB x.id (last + 1) (t.next - 1) && (inB x.ver 0 t.chg.length && (rowOk ((chgs t.first (t.chg.take x.ver.toNat)).getD []) x.vals && rowOk (shapeT t) (nowV t x))) with
    | false => rw [hq] at hr; cases hr
    | true =>
      rw [hq] at hr
      rcases List.mem_cons.1 h with h | h
      · subst h
        simp only [Bool.and_eq_true] at hq
        obtain ⟨_, h2, h3, _⟩ := hq
        have h2' : 0 ≤ r.ver ∧ r.ver ≤ t.chg.length := by unfold inB at h2; simpa using h2
        exact ⟨h2'.1, h2'.2, hall, rowOk_len h3, hv r List.mem_cons_self⟩
      · exact rowsB_at hr hall (fun r h => hv r (List.mem_cons_of_mem _ h)) r h
structure TabOk (t : Tab) : Prop where
  once : OnceOk t
  sh : shapeOk t.first = true
  shape : shapeOk (shapeT t) = true
  glen : t.chg.length ≤ 8
  rlen : t.rows.length ≤ 8
  next : 1 ≤ t.next ∧ t.next ≤ 60
  rows : rowsB t = true
  tab : tabB t = true
theorem tabOk_of {t : Tab} (ht : SmallT t) (h : tableOk t = true) : TabOk t := by
  unfold tableOk at h
  simp only [Bool.and_eq_true, decide_eq_true_eq] at h
  obtain ⟨h1, h2, h3, h4, h5, h6⟩ := h
  have hs : shapeOk t.first = true := by
    unfold shAll at h1
    split at h1
    · rename_i hs; exact hs
    · cases h1
  unfold shAll at h1
  rw [if_pos hs] at h1
  obtain ⟨s', hs'⟩ := Option.isSome_iff_exists.1 h1
  have hr : ∀ r ∈ t.rows, NowOk t r := by
    have h5' := h5
    unfold rowsB at h5'
    split at h5'
    · rename_i m hm
      exact rowsB_at hm h1 (fun r h => (ht.vals r h).1)
    · cases h5'
  exact ⟨⟨ht, h1, hr⟩, hs, by unfold shapeT; rw [hs']; exact chgs_shape hs hs', h2, h3, by unfold inB at h4; simpa using h4, h5, h6⟩
theorem d_TableOk {D : Nat} (hD : 9 ≤ D) (t : Tab) (ht : SmallT t) : den pr D f_impl_TableOk [.agg t.c] = some [.q (tableOk t)] := by
  obtain ⟨D, rfl, hd⟩ := pred_of hD
  rw [u_impl_TableOk]
  have e1 := d_ShapeAll (show 7 ≤ D by omega) t.first t.chg ht.cols ht.clen ht.chg ht.glen
  have e2 := d_in (show 1 ≤ D by omega) t.next 1 60
  unfold tableOk
  cases p1 : (shAll t.first t.chg).isSome with
  | false =>
    rw [p1] at e1
    simp only [c_impl_TableOk, go_sem, e1, e2, List.length_map, rowsSl_col]
  | true =>
    rw [p1] at e1
    have hsh : (shAll t.first t.chg).getD [] = shapeT t := by
      unfold shAll at *
      split at p1
      · rename_i hs; rw [if_pos hs]; rfl
      · cases p1
    have hall : (chgs t.first t.chg).isSome = true := by
      unfold shAll at p1
      split at p1
      · exact p1
      · cases p1
    rw [hsh] at e1
    have i1 : ((8 : Int) < (t.chg.length : Int)) = ¬ (t.chg.length ≤ 8) := by rw [eq_iff_iff]; omega
    have i2 : ((8 : Int) < (t.rows.length : Int)) = ¬ (t.rows.length ≤ 8) := by rw [eq_iff_iff]; omega
    rcases pf (t.chg.length ≤ 8) with h1 | h1
    · rcases pf (t.rows.length ≤ 8) with h2 | h2
      · cases p2 : inB t.next 1 60 with
        | false =>
          rw [p2] at e2
          simp only [c_impl_TableOk, go_sem, e1, e2, List.length_map, rowsSl_col, i1, i2, h1, h2]
        | true =>
          rw [p2] at e2
          have hn : 1 ≤ t.next ∧ t.next ≤ 60 := by unfold inB at p2; simpa using p2
          obtain ⟨out, lo, lp⟩ := lp_TableOk hd t ht hn hall
          rw [show ((0 : Nat) : Int) = 0 from rfl] at lo
          cases hq : runI (tabRG t) 0 0 t.rows with
          | inl m =>
            rw [hq] at lp
            obtain ⟨σ', rfl, l1, l2⟩ := lp
            have hB : rowsB t = true := by unfold rowsB; rw [hq]
            have H : OnceOk t := ⟨ht, hall, rowsB_at hq hall (fun r h => (ht.vals r h).1)⟩
            have e3 := d_once (show 1 ≤ D by omega) t H
            simp only [c_impl_TableOk, go_sem, e1, e2, List.length_map, rowsSl_col, i1, i2, h1, h2, lo, l1, l2, e3, hB]
          | inr u =>
            rw [hq] at lp
            obtain ⟨σ', rfl, l2⟩ := lp
            have hB : rowsB t = false := by unfold rowsB; rw [hq]
            simp only [c_impl_TableOk, go_sem, e1, e2, List.length_map, rowsSl_col, i1, i2, h1, h2, lo, l2, hB]
      · simp only [c_impl_TableOk, go_sem, e1, e2, List.length_map, rowsSl_col, i1, i2, h1, h2]
    · simp only [c_impl_TableOk, go_sem, e1, e2, List.length_map, rowsSl_col, i1, i2, h1]
end Go.Vm.T

/- Rows by their numbers: the program's. -/
namespace Go.Vm.T
open Go.Proofs
variable [Pr2]
end Go.Vm.T

/- What is asked of a table: the program's. -/
namespace Go.Vm.T
open Go.Proofs
abbrev valsC (vs : List Val) : List A := [.lit t_impl_Val (vs.map Val.c)]
variable [Pr2]
end Go.Vm.T

/- Sums: the program's. -/
namespace Go.Vm.T
open Go.Proofs
variable [Pr2]
end Go.Vm.T
end
