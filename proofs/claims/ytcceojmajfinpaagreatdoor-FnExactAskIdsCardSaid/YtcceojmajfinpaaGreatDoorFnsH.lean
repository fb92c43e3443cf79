/-
  Tables and what is asked, of the reference's
-/
import Derived.Test.YtcceojmajfinpaaGreatDoorFnsG
import Derived.Test.YtcceojmajfinpaaGreatDoorFnsF
section
set_option linter.unusedVariables false
set_option linter.unusedSectionVars false
set_option linter.unusedSimpArgs false
/- Rows by their numbers, the values of all rows: the reference's. -/
namespace Go.Vm.T
open Go.Proofs
def allG (t : Tab) (_ : Nat) (acc : List (List Val)) (r : RowV) : List (List Val) ⊕ Unit := .inl (acc ++ [nowV t r])
theorem all_run (t : Tab) : ∀ (rs : List RowV) (i : Nat) (acc : List (List Val)), runI (allG t) i acc rs = .inl (acc ++ rs.map (nowV t))
  | [], i, acc => by simp [runI]
  | r :: rs, i, acc => by
    unfold runI allG
    simp only
    have := all_run t rs (i + 1) (acc ++ [nowV t r])
    unfold allG at this
    rw [this]
    simp
abbrev alS (t : Tab) (i : Nat) (acc : List (List Val)) : St := ⟨upd (upd (upd (fun _ => .bad) 1 (.ptr 0 0 0)) 3 (.ref t_S_impl_Val 1 0 acc.length acc.length (decide (i = 0)))) 4 (.n i), upd (upd (fun _ => none) 0 (some ⟨t_impl_Table, [t.c], true, true⟩)) 1 (some ⟨t_S_impl_Val, acc.map valsC, true, false⟩), 2, 0⟩
variable [Pr2]
theorem lp_l3All {D : Nat} (hD : 9 ≤ D) (t : Tab) (ht : SmallT t) (hs : shapeOk t.first = true) (hn : ∀ r ∈ t.rows, NowOk t r) :
    Ended (loopN (exec ⟨den pr D, dcl pr D⟩ b_spec_l3All_0) [1, 3, 4] rounds (alS t 0 [])) (List (List Val)) Unit (runI (allG t) 0 [] t.rows)
      (fun m o => ∃ σ' ex, o = .exit 0 σ' ∧ σ'.s 3 = .ref t_S_impl_Val 1 0 m.length m.length ex ∧ σ'.h 1 = some ⟨t_S_impl_Val, m.map valsC, true, false⟩) (fun _ o => False) := by
  refine loop_all t.rows (alS t) (allG t) (fun i acc => acc.length = i) _ _ [] rfl ht.rlen (fun i acc r K hc hlt hI => ?_) (fun acc K hI => ?_)
  · have hrx := map_at (f := RowV.c) hc
    have hw := wrap_nat (n := i) (by have := ht.rlen; unfold big at this; omega)
    have e1 := d_l3Now hD t ht hs r (hn r (List.mem_of_getElem? hc))
    have hal : acc.length + 1 ≤ big := by have := ht.rlen; omega
    have hat : (acc.map valsC).take acc.length = acc.map valsC := List.take_of_length_le (by simp)
    have hz : decide (i + 1 = 0) = false := by simp
    unfold allG
    generalize nowV t r = row at *
    have hvt : (row.map Val.c).take row.length = row.map Val.c := List.take_of_length_le (by simp)
    have em : (acc ++ [row]).map valsC = acc.map valsC ++ [valsC row] := by simp
    have hax : (acc ++ [row]).length = acc.length + 1 := by simp
    simp only [alS, loopN, e_spec_l3All_0, B_spec_l3All_0, go_sem, List.length_map, hrx, hlt, hw, e1, hal, hat, hvt, em, hax, hz, rowsSl_val, Option.isNone_none, and_self, if_true, Nat.sub_zero, List.drop_zero, Nat.zero_le, Nat.le_refl]
    exact hI
  · have hi : ¬ t.rows.length < t.rows.length := by omega
    simp only [alS, loopN, e_spec_l3All_0, B_spec_l3All_0, go_sem, List.length_map, hi]
    exact ⟨_, rfl, _, _, rfl, rfl, rfl⟩
theorem d_l3All {D : Nat} (hD : 10 ≤ D) (t : Tab) (ht : SmallT t) (hs : shapeOk t.first = true) (hn : ∀ r ∈ t.rows, NowOk t r) : den pr D f_spec_l3All [.agg t.c] = some [.olit t_S_impl_Val ((t.rows.map (nowV t)).map valsC)] := by
  obtain ⟨D, rfl, hd⟩ := pred_of hD
  rw [u_spec_l3All]
  obtain ⟨out, lo, lp⟩ := lp_l3All hd t ht hs hn
  rw [all_run] at lp
  obtain ⟨σ', ex, rfl, l1, l2⟩ := lp
  simp only [alS, List.length_nil, List.map_nil, decide_true] at lo
  rw [show ((0 : Nat) : Int) = 0 from rfl] at lo
  simp only [List.nil_append] at l1 l2
  have hat : ((t.rows.map (nowV t)).map valsC).take (t.rows.map (nowV t)).length = (t.rows.map (nowV t)).map valsC := List.take_of_length_le (by simp)
  have hll : ((t.rows.map (nowV t)).map valsC).length = (t.rows.map (nowV t)).length := by simp
  generalize t.rows.map (nowV t) = m at *
  simp only [c_spec_l3All, go_sem, lo, l1, l2, hat, hll, Nat.le_refl, Nat.lt_irrefl]
end Go.Vm.T

/- Rows that are stored right: the reference's. -/
namespace Go.Vm.T
open Go.Proofs
abbrev stS (t : Tab) (i : Nat) : St := ⟨upd (upd (upd (fun _ => .bad) 1 (.ptr 0 0 0)) 3 (.ref t_impl_Col 1 0 (shapeT t).length (shapeT t).length false)) 4 (.n i), upd (upd (fun _ => none) 0 (some ⟨t_impl_Table, [t.c], true, true⟩)) 1 (some ⟨t_impl_Col, (shapeT t).map ColV.c, true, false⟩), 2, 0⟩
theorem bq2 {X a : A} : (bnd (opQ false X) fun _ => some a) = some a := by
  obtain ⟨q, hq⟩ := opQ_f X
  rw [hq]
  rfl
variable [Pr2]
noncomputable abbrev stLp (D : Nat) (K : Nat) (σ : St) : Option Out := loopN (exec ⟨den pr D, dcl pr D⟩ b_q43_0) [1, 3, 4] K σ
abbrev RetF (o : Option Out) : Prop := ∃ out, o = some out ∧ ∃ σ', out = .ret σ' ∧ σ'.s 2 = .q false
def g72 : List G := [.g 67 false (.call (some 72) 2 0 f_spec_RowOk [(.t 68), (.t 71)]), .g 67 false (.un 73 .not (.t 72)), .o (.pick 74 (.t 67) (.k (.v (.bool true))) (.t 73))]
noncomputable def tl72 (E : Env) (σ : St) (o : Option A) : Nat → A := match bnd (underS false σ (some 71) o none) (steps E 2 g72) with | some τ => τ.s | none => σ.s
theorem tail72 (E : Env) (σ : St) (o : Option A) (k : Option St) (h : σ.s 67 = .q true) : bnd (underS false σ (some 71) o k) (steps E 2 [.g 67 false (.call (some 72) 2 0 f_spec_RowOk [(.t 68), (.t 71)]), .g 67 false (.un 73 .not (.t 72)), .o (.pick 74 (.t 67) (.k (.v (.bool true))) (.t 73))]) = some ⟨upd (tl72 E σ o) 74 (.q true), σ.h, σ.n, σ.base⟩ := by
  have key : ∃ f, bnd (underS false σ (some 71) o none) (steps E 2 g72) = some ⟨upd f 74 (.q true), σ.h, σ.n, σ.base⟩ := by
    rw [underS_jk]
    obtain ⟨s, hp, n, b⟩ := σ
    simp only at h
    simp only [g72, go_sem, h, underS_jk, underV_jk]
    rw [bq]
    exact ⟨_, rfl⟩
  obtain ⟨f, hf⟩ := key
  have : tl72 E σ o = upd f 74 (.q true) := by unfold tl72; rw [hf]
  rw [this, underS_jk, ← underS_jk _ _ _ none]
  rw [show upd (upd f 74 (.q true)) 74 (.q true) = upd f 74 (.q true) from by funext i; simp only [upd_apply]; split <;> rfl]
  exact hf
structure StF (t : Tab) (i : Nat) (r : RowV) : Prop where
  hr : (t.rows.map RowV.c)[i]? = some r.c
  hlt : i < t.rows.length
  hw : IntKind.i64.wrap ((i : Int) + 1) = ((i + 1 : Nat) : Int)
theorem st_0 {D : Nat} {t : Tab} {r : RowV} (F : StF t 0 r) (K : Nat) (hb : r.ver < 0 ∨ (t.chg.length : Int) < r.ver ∨ r.id < 1 ∨ t.next ≤ r.id) : RetF (stLp D (K + 1) (stS t 0)) := by
  obtain ⟨hr, hlt, hw⟩ := F
  have hw1 : IntKind.i64.wrap (((0 : Nat) : Int) - 1) = -1 := by decide
  have hn : ((0 : Int) ≤ -1) = False := by simp
  have z0 : ((0 : Int) < ((0 : Nat) : Int)) = False := by simp
  rcases pf (r.ver < 0) with h1 | h1
  · simp only [stS, stLp, loopN, e_q43_0, B_q43_0, go_sem, List.length_map, hr, hlt, hw, hw1, h1, hn, z0, testA_f]
    exact ⟨_, rfl, _, rfl, rfl⟩
  rcases pf ((t.chg.length : Int) < r.ver) with h2 | h2
  · simp only [stS, stLp, loopN, e_q43_0, B_q43_0, go_sem, List.length_map, hr, hlt, hw, hw1, h1, h2, hn, z0, testA_f]
    exact ⟨_, rfl, _, rfl, rfl⟩
  rcases pf (r.id < 1) with h3 | h3
  · simp only [stS, stLp, loopN, e_q43_0, B_q43_0, go_sem, List.length_map, hr, hlt, hw, hw1, h1, h2, h3, hn, z0, testA_f]
    exact ⟨_, rfl, _, rfl, rfl⟩
  rcases pf (t.next ≤ r.id) with h4 | h4
  · simp only [stS, stLp, loopN, e_q43_0, B_q43_0, go_sem, List.length_map, hr, hlt, hw, hw1, h1, h2, h3, h4, hn, z0, testA_f]
    exact ⟨_, rfl, _, rfl, rfl⟩
  exact absurd hb (by rw [h1, h2, h3, h4]; simp)
theorem st_s {D : Nat} {t : Tab} {j : Nat} {p r : RowV} (F : StF t (j + 1) r) (hp : (t.rows.map RowV.c)[j]? = some p.c) (hw1 : IntKind.i64.wrap (((j + 1 : Nat) : Int) - 1) = j) (K : Nat) (hb : r.ver < 0 ∨ (t.chg.length : Int) < r.ver ∨ r.id < 1 ∨ t.next ≤ r.id ∨ r.id ≤ p.id) : RetF (stLp D (K + 1) (stS t (j + 1))) := by
  obtain ⟨hr, hlt, hw⟩ := F
  have j0 : (0 : Int) ≤ (j : Int) := by omega
  have jt : ((j : Int)).toNat = j := by omega
  have z0 : ((0 : Int) < ((j + 1 : Nat) : Int)) = True := by simp
  have hj : j < t.rows.length := by omega
  rcases pf (r.ver < 0) with h1 | h1
  · simp only [stS, stLp, loopN, e_q43_0, B_q43_0, go_sem, List.length_map, hr, hlt, hw, hw1, h1, hp, hj, j0, jt, z0, testA_f]
    exact ⟨_, rfl, _, rfl, rfl⟩
  rcases pf ((t.chg.length : Int) < r.ver) with h2 | h2
  · simp only [stS, stLp, loopN, e_q43_0, B_q43_0, go_sem, List.length_map, hr, hlt, hw, hw1, h1, h2, hp, hj, j0, jt, z0, testA_f]
    exact ⟨_, rfl, _, rfl, rfl⟩
  rcases pf (r.id < 1) with h3 | h3
  · simp only [stS, stLp, loopN, e_q43_0, B_q43_0, go_sem, List.length_map, hr, hlt, hw, hw1, h1, h2, h3, hp, hj, j0, jt, z0, testA_f]
    exact ⟨_, rfl, _, rfl, rfl⟩
  rcases pf (t.next ≤ r.id) with h4 | h4
  · simp only [stS, stLp, loopN, e_q43_0, B_q43_0, go_sem, List.length_map, hr, hlt, hw, hw1, h1, h2, h3, h4, hp, hj, j0, jt, z0, testA_f]
    exact ⟨_, rfl, _, rfl, rfl⟩
  rcases pf (r.id ≤ p.id) with h5 | h5
  · simp only [stS, stLp, loopN, e_q43_0, B_q43_0, go_sem, List.length_map, hr, hlt, hw, hw1, h1, h2, h3, h4, h5, hp, hj, j0, jt, z0, testA_f]
    exact ⟨_, rfl, _, rfl, rfl⟩
  exact absurd hb (by rw [h1, h2, h3, h4, h5]; simp)
theorem st_f0 {D : Nat} {t : Tab} {r : RowV} (F : StF t 0 r) (h1 : (r.ver < 0) = False) (h2 : ((t.chg.length : Int) < r.ver) = False) (h3 : (r.id < 1) = False) (h4 : (t.next ≤ r.id) = False) (s : List ColV) (e1 : den pr D f_spec_l3Shape [.agg t.c, .n r.ver] = some [.olit t_impl_Col (s.map ColV.c)]) (e4 : den pr D f_spec_RowOk [.lit t_impl_Col (s.map ColV.c), .lit t_impl_Val (r.vals.map Val.c)] = some [.q false]) (K : Nat) : RetF (stLp D (K + 1) (stS t 0)) := by
  obtain ⟨hr, hlt, hw⟩ := F
  have hw1 : IntKind.i64.wrap (((0 : Nat) : Int) - 1) = -1 := by decide
  have hn : ((0 : Int) ≤ -1) = False := by simp
  have z0 : ((0 : Int) < ((0 : Nat) : Int)) = False := by simp
  have hts : (s.map ColV.c).take s.length = s.map ColV.c := List.take_of_length_le (by simp)
  have htsh : ((shapeT t).map ColV.c).take (shapeT t).length = (shapeT t).map ColV.c := List.take_of_length_le (by simp)
  simp only [stS, stLp, loopN, e_q43_0, B_q43_0, go_sem, List.length_map, hr, hlt, hw, hw1, h1, h2, h3, h4, hn, z0, testA_f, e1, e4, tail72, hts, htsh, rowsSl_col, rowsSl_val, Nat.le_refl, Nat.zero_le, Option.isNone_none, and_self, if_true, List.drop_zero, Nat.sub_zero, Nat.zero_add]
  exact ⟨_, rfl, _, rfl, rfl⟩
theorem st_n0 {D : Nat} {t : Tab} {r : RowV} (F : StF t 0 r) (h1 : (r.ver < 0) = False) (h2 : ((t.chg.length : Int) < r.ver) = False) (h3 : (r.id < 1) = False) (h4 : (t.next ≤ r.id) = False) (s : List ColV) (e1 : den pr D f_spec_l3Shape [.agg t.c, .n r.ver] = some [.olit t_impl_Col (s.map ColV.c)]) (e4 : den pr D f_spec_RowOk [.lit t_impl_Col (s.map ColV.c), .lit t_impl_Val (r.vals.map Val.c)] = some [.q true]) (row : List Val) (e5 : den pr D f_spec_l3Now [.agg t.c, .agg r.c] = some [.olit t_impl_Val (row.map Val.c)]) (e6 : den pr D f_spec_RowOk [.lit t_impl_Col ((shapeT t).map ColV.c), .lit t_impl_Val (row.map Val.c)] = some [.q false]) (K : Nat) : RetF (stLp D (K + 1) (stS t 0)) := by
  obtain ⟨hr, hlt, hw⟩ := F
  have hw1 : IntKind.i64.wrap (((0 : Nat) : Int) - 1) = -1 := by decide
  have hn : ((0 : Int) ≤ -1) = False := by simp
  have z0 : ((0 : Int) < ((0 : Nat) : Int)) = False := by simp
  have hts : (s.map ColV.c).take s.length = s.map ColV.c := List.take_of_length_le (by simp)
  have htsh : ((shapeT t).map ColV.c).take (shapeT t).length = (shapeT t).map ColV.c := List.take_of_length_le (by simp)
  have htn : (row.map Val.c).take row.length = row.map Val.c := List.take_of_length_le (by simp)
  simp only [stS, stLp, loopN, e_q43_0, B_q43_0, go_sem, List.length_map, hr, hlt, hw, hw1, h1, h2, h3, h4, hn, z0, testA_f, e1, e4, e5, e6, htn, hts, htsh, rowsSl_col, rowsSl_val, Nat.le_refl, Nat.zero_le, Option.isNone_none, and_self, if_true, List.drop_zero, Nat.sub_zero, Nat.zero_add]
  exact ⟨_, rfl, _, rfl, rfl⟩
theorem st_t0 {D : Nat} {t : Tab} {r : RowV} (F : StF t 0 r) (h1 : (r.ver < 0) = False) (h2 : ((t.chg.length : Int) < r.ver) = False) (h3 : (r.id < 1) = False) (h4 : (t.next ≤ r.id) = False) (s : List ColV) (e1 : den pr D f_spec_l3Shape [.agg t.c, .n r.ver] = some [.olit t_impl_Col (s.map ColV.c)]) (e4 : den pr D f_spec_RowOk [.lit t_impl_Col (s.map ColV.c), .lit t_impl_Val (r.vals.map Val.c)] = some [.q true]) (row : List Val) (e5 : den pr D f_spec_l3Now [.agg t.c, .agg r.c] = some [.olit t_impl_Val (row.map Val.c)]) (e6 : den pr D f_spec_RowOk [.lit t_impl_Col ((shapeT t).map ColV.c), .lit t_impl_Val (row.map Val.c)] = some [.q true]) (K : Nat) : stLp D (K + 1) (stS t 0) = stLp D K (stS t (0 + 1)) := by
  obtain ⟨hr, hlt, hw⟩ := F
  have hw1 : IntKind.i64.wrap (((0 : Nat) : Int) - 1) = -1 := by decide
  have hn : ((0 : Int) ≤ -1) = False := by simp
  have z0 : ((0 : Int) < ((0 : Nat) : Int)) = False := by simp
  have hts : (s.map ColV.c).take s.length = s.map ColV.c := List.take_of_length_le (by simp)
  have htsh : ((shapeT t).map ColV.c).take (shapeT t).length = (shapeT t).map ColV.c := List.take_of_length_le (by simp)
  have htn : (row.map Val.c).take row.length = row.map Val.c := List.take_of_length_le (by simp)
  simp only [stS, stLp, loopN, e_q43_0, B_q43_0, go_sem, List.length_map, hr, hlt, hw, hw1, h1, h2, h3, h4, hn, z0, testA_f, e1, e4, e5, e6, htn, hts, htsh, rowsSl_col, rowsSl_val, Nat.le_refl, Nat.zero_le, Option.isNone_none, and_self, if_true, List.drop_zero, Nat.sub_zero, Nat.zero_add]
theorem st_fs {D : Nat} {t : Tab} {j : Nat} {p r : RowV} (F : StF t (j + 1) r) (hp : (t.rows.map RowV.c)[j]? = some p.c) (hw1 : IntKind.i64.wrap (((j + 1 : Nat) : Int) - 1) = j) (h1 : (r.ver < 0) = False) (h2 : ((t.chg.length : Int) < r.ver) = False) (h3 : (r.id < 1) = False) (h4 : (t.next ≤ r.id) = False) (h5 : (r.id ≤ p.id) = False) (s : List ColV) (e1 : den pr D f_spec_l3Shape [.agg t.c, .n r.ver] = some [.olit t_impl_Col (s.map ColV.c)]) (e4 : den pr D f_spec_RowOk [.lit t_impl_Col (s.map ColV.c), .lit t_impl_Val (r.vals.map Val.c)] = some [.q false]) (K : Nat) : RetF (stLp D (K + 1) (stS t (j + 1))) := by
  obtain ⟨hr, hlt, hw⟩ := F
  have j0 : (0 : Int) ≤ (j : Int) := by omega
  have jt : ((j : Int)).toNat = j := by omega
  have z0 : ((0 : Int) < ((j + 1 : Nat) : Int)) = True := by simp
  have hj : j < t.rows.length := by omega
  have hts : (s.map ColV.c).take s.length = s.map ColV.c := List.take_of_length_le (by simp)
  have htsh : ((shapeT t).map ColV.c).take (shapeT t).length = (shapeT t).map ColV.c := List.take_of_length_le (by simp)
  simp only [stS, stLp, loopN, e_q43_0, B_q43_0, go_sem, List.length_map, hr, hlt, hw, hw1, h1, h2, h3, h4, h5, hp, hj, j0, jt, z0, testA_f, e1, e4, tail72, hts, htsh, rowsSl_col, rowsSl_val, Nat.le_refl, Nat.zero_le, Option.isNone_none, and_self, if_true, List.drop_zero, Nat.sub_zero, Nat.zero_add]
  exact ⟨_, rfl, _, rfl, rfl⟩
theorem st_ns {D : Nat} {t : Tab} {j : Nat} {p r : RowV} (F : StF t (j + 1) r) (hp : (t.rows.map RowV.c)[j]? = some p.c) (hw1 : IntKind.i64.wrap (((j + 1 : Nat) : Int) - 1) = j) (h1 : (r.ver < 0) = False) (h2 : ((t.chg.length : Int) < r.ver) = False) (h3 : (r.id < 1) = False) (h4 : (t.next ≤ r.id) = False) (h5 : (r.id ≤ p.id) = False) (s : List ColV) (e1 : den pr D f_spec_l3Shape [.agg t.c, .n r.ver] = some [.olit t_impl_Col (s.map ColV.c)]) (e4 : den pr D f_spec_RowOk [.lit t_impl_Col (s.map ColV.c), .lit t_impl_Val (r.vals.map Val.c)] = some [.q true]) (row : List Val) (e5 : den pr D f_spec_l3Now [.agg t.c, .agg r.c] = some [.olit t_impl_Val (row.map Val.c)]) (e6 : den pr D f_spec_RowOk [.lit t_impl_Col ((shapeT t).map ColV.c), .lit t_impl_Val (row.map Val.c)] = some [.q false]) (K : Nat) : RetF (stLp D (K + 1) (stS t (j + 1))) := by
  obtain ⟨hr, hlt, hw⟩ := F
  have j0 : (0 : Int) ≤ (j : Int) := by omega
  have jt : ((j : Int)).toNat = j := by omega
  have z0 : ((0 : Int) < ((j + 1 : Nat) : Int)) = True := by simp
  have hj : j < t.rows.length := by omega
  have hts : (s.map ColV.c).take s.length = s.map ColV.c := List.take_of_length_le (by simp)
  have htsh : ((shapeT t).map ColV.c).take (shapeT t).length = (shapeT t).map ColV.c := List.take_of_length_le (by simp)
  have htn : (row.map Val.c).take row.length = row.map Val.c := List.take_of_length_le (by simp)
  simp only [stS, stLp, loopN, e_q43_0, B_q43_0, go_sem, List.length_map, hr, hlt, hw, hw1, h1, h2, h3, h4, h5, hp, hj, j0, jt, z0, testA_f, e1, e4, e5, e6, htn, hts, htsh, rowsSl_col, rowsSl_val, Nat.le_refl, Nat.zero_le, Option.isNone_none, and_self, if_true, List.drop_zero, Nat.sub_zero, Nat.zero_add]
  exact ⟨_, rfl, _, rfl, rfl⟩
theorem st_ts {D : Nat} {t : Tab} {j : Nat} {p r : RowV} (F : StF t (j + 1) r) (hp : (t.rows.map RowV.c)[j]? = some p.c) (hw1 : IntKind.i64.wrap (((j + 1 : Nat) : Int) - 1) = j) (h1 : (r.ver < 0) = False) (h2 : ((t.chg.length : Int) < r.ver) = False) (h3 : (r.id < 1) = False) (h4 : (t.next ≤ r.id) = False) (h5 : (r.id ≤ p.id) = False) (s : List ColV) (e1 : den pr D f_spec_l3Shape [.agg t.c, .n r.ver] = some [.olit t_impl_Col (s.map ColV.c)]) (e4 : den pr D f_spec_RowOk [.lit t_impl_Col (s.map ColV.c), .lit t_impl_Val (r.vals.map Val.c)] = some [.q true]) (row : List Val) (e5 : den pr D f_spec_l3Now [.agg t.c, .agg r.c] = some [.olit t_impl_Val (row.map Val.c)]) (e6 : den pr D f_spec_RowOk [.lit t_impl_Col ((shapeT t).map ColV.c), .lit t_impl_Val (row.map Val.c)] = some [.q true]) (K : Nat) : stLp D (K + 1) (stS t (j + 1)) = stLp D K (stS t ((j + 1) + 1)) := by
  obtain ⟨hr, hlt, hw⟩ := F
  have j0 : (0 : Int) ≤ (j : Int) := by omega
  have jt : ((j : Int)).toNat = j := by omega
  have z0 : ((0 : Int) < ((j + 1 : Nat) : Int)) = True := by simp
  have hj : j < t.rows.length := by omega
  have hts : (s.map ColV.c).take s.length = s.map ColV.c := List.take_of_length_le (by simp)
  have htsh : ((shapeT t).map ColV.c).take (shapeT t).length = (shapeT t).map ColV.c := List.take_of_length_le (by simp)
  have htn : (row.map Val.c).take row.length = row.map Val.c := List.take_of_length_le (by simp)
  simp only [stS, stLp, loopN, e_q43_0, B_q43_0, go_sem, List.length_map, hr, hlt, hw, hw1, h1, h2, h3, h4, h5, hp, hj, j0, jt, z0, testA_f, e1, e4, e5, e6, htn, hts, htsh, rowsSl_col, rowsSl_val, Nat.le_refl, Nat.zero_le, Option.isNone_none, and_self, if_true, List.drop_zero, Nat.sub_zero, Nat.zero_add]
theorem lp_l3Stored {D : Nat} (hD : 9 ≤ D) (t : Tab) (ht : SmallT t) (hs : shapeOk t.first = true) (hall : (chgs t.first t.chg).isSome = true) :
    Ended (stLp D rounds (stS t 0)) Int Unit (runI (tabRG t) 0 0 t.rows) (fun _ o => ∃ σ', o = .exit 0 σ') (fun _ o => ∃ σ', o = .ret σ' ∧ σ'.s 2 = .q false) := by
  refine loop_all t.rows (fun i _ => stS t i) (tabRG t) (fun i m => 0 ≤ m ∧ (i = 0 ∧ m = 0 ∨ ∃ j p, i = j + 1 ∧ t.rows[j]? = some p ∧ m = p.id)) _ _ 0 ⟨Int.le_refl 0, .inl ⟨rfl, rfl⟩⟩ ht.rlen (fun i m r K hc hlt hI => ?_) (fun m K hI => ?_)
  · obtain ⟨hm0, hI⟩ := hI
    have hr := map_at (f := RowV.c) hc
    have hw := wrap_nat (n := i) (by have := ht.rlen; unfold big at this; omega)
    have F : StF t i r := ⟨hr, hlt, hw⟩
    have hv := (ht.vals r (List.mem_of_getElem? hc)).1
    have hv2 := (ht.vals r (List.mem_of_getElem? hc)).2
    have hg := ht.glen
    have hcl := ht.rlen
    have hI' : ∀ b : Int, (i = 0 ∧ m = 0 ∨ ∃ j p, i = j + 1 ∧ t.rows[j]? = some p ∧ m = p.id) := fun _ => hI
    unfold tabRG
    cases p1 : inB r.id (m + 1) (t.next - 1) && inB r.ver 0 t.chg.length with
    | false =>
      have hb : ¬ ((m + 1 ≤ r.id ∧ r.id ≤ t.next - 1) ∧ 0 ≤ r.ver ∧ r.ver ≤ (t.chg.length : Int)) := by
        intro h
        have : (inB r.id (m + 1) (t.next - 1) && inB r.ver 0 t.chg.length) = true := by unfold inB; simp; omega
        rw [this] at p1; cases p1
      rw [← Bool.and_assoc, p1, Bool.false_and, cond_false]
      rcases hI with ⟨rfl, rfl⟩ | ⟨j, p, rfl, hp, rfl⟩
      · exact st_0 F K (by omega)
      · exact st_s F (map_at (f := RowV.c) hp) (by rw [show ((j + 1 : Nat) : Int) - 1 = j by omega]; exact wrap_i64 (by omega) (by unfold big at hcl; omega)) K (by omega)
    | true =>
      have hb : (m + 1 ≤ r.id ∧ r.id ≤ t.next - 1) ∧ 0 ≤ r.ver ∧ r.ver ≤ (t.chg.length : Int) := by
        unfold inB at p1; simp at p1; omega
      obtain ⟨v, hver⟩ : ∃ v : Nat, r.ver = v := ⟨r.ver.toNat, by omega⟩
      have hvl : v ≤ t.chg.length := by omega
      have hvt : r.ver.toNat = v := by omega
      have hap := chgs_app t.first (t.chg.take v) (t.chg.drop v)
      rw [List.take_append_drop] at hap
      obtain ⟨s, hs'⟩ : ∃ s, chgs t.first (t.chg.take v) = some s := by
        cases hq : chgs t.first (t.chg.take v) with
        | some s => exact ⟨s, rfl⟩
        | none => rw [hq] at hap; rw [hap] at hall; cases hall
      have e1 := d_l3Shape (show 8 ≤ D by omega) t ht v hvl
      unfold shAll at e1
      rw [if_pos hs, hs', ← hver] at e1
      simp only [Option.getD_some] at e1
      have hss := chgs_shape hs hs'
      have e4 := d_spec_RowOk (show 5 ≤ D by omega) s r.vals (shape_small hss).1 hv (by omega)
      rw [hss, Bool.true_and] at e4
      have h1 : (r.ver < 0) = False := eq_false (by omega)
      have h2 : ((t.chg.length : Int) < r.ver) = False := eq_false (by omega)
      have h3 : (r.id < 1) = False := eq_false (by omega)
      have h4 : (t.next ≤ r.id) = False := eq_false (by omega)
      rw [← Bool.and_assoc, p1, Bool.true_and, hvt, hs', Option.getD_some]
      cases p3 : rowOk s r.vals with
      | false =>
        rw [p3] at e4
        simp only [Bool.false_and, cond_false]
        rcases hI with ⟨rfl, rfl⟩ | ⟨j, p, rfl, hp, rfl⟩
        · exact st_f0 F h1 h2 h3 h4 s e1 e4 K
        · exact st_fs F (map_at (f := RowV.c) hp) (by rw [show ((j + 1 : Nat) : Int) - 1 = j by omega]; exact wrap_i64 (by omega) (by unfold big at hcl; omega)) h1 h2 h3 h4 (eq_false (by omega)) s e1 e4 K
      | true =>
        rw [p3] at e4
        have hN : NowOk t r := ⟨by omega, by omega, hall, by rw [hvt, hs']; exact rowOk_len p3, hv⟩
        have e5 := d_l3Now hD t ht hs r hN
        obtain ⟨s2, hs2⟩ := Option.isSome_iff_exists.1 hall
        have hsT : shapeT t = s2 := by unfold shapeT; rw [hs2]; rfl
        have hsh : shapeOk (shapeT t) = true := by rw [hsT]; exact chgs_shape hs hs2
        have hnl := now_len hN
        have hsn : nowV t r = rowsA s (t.chg.drop v) r.vals := by unfold nowV; rw [hvt, hs']; rfl
        have hns := rowsA_small (s := s) (cs := t.chg.drop v) hv (fun c hc => ht.chg c (List.mem_of_mem_drop hc))
        have e6 := d_spec_RowOk (show 5 ≤ D by omega) (shapeT t) (nowV t r) (shape_small hsh).1 (by rw [hsn]; exact hns) (by rw [hnl]; have := (shape_small hsh).2; omega)
        rw [hsh, Bool.true_and] at e6
        cases p4 : rowOk (shapeT t) (nowV t r) with
        | false =>
          rw [p4] at e6
          simp only [Bool.and_false, cond_false]
          rcases hI with ⟨rfl, rfl⟩ | ⟨j, p, rfl, hp, rfl⟩
          · exact st_n0 F h1 h2 h3 h4 s e1 e4 _ e5 e6 K
          · exact st_ns F (map_at (f := RowV.c) hp) (by rw [show ((j + 1 : Nat) : Int) - 1 = j by omega]; exact wrap_i64 (by omega) (by unfold big at hcl; omega)) h1 h2 h3 h4 (eq_false (by omega)) s e1 e4 _ e5 e6 K
        | true =>
          rw [p4] at e6
          simp only [Bool.and_true, cond_true]
          refine ⟨?_, by omega, .inr ⟨i, r, rfl, hc, rfl⟩⟩
          rcases hI with ⟨rfl, rfl⟩ | ⟨j, p, rfl, hp, rfl⟩
          · exact st_t0 F h1 h2 h3 h4 s e1 e4 _ e5 e6 K
          · exact st_ts F (map_at (f := RowV.c) hp) (by rw [show ((j + 1 : Nat) : Int) - 1 = j by omega]; exact wrap_i64 (by omega) (by unfold big at hcl; omega)) h1 h2 h3 h4 (eq_false (by omega)) s e1 e4 _ e5 e6 K
  · have hi : ¬ t.rows.length < t.rows.length := by omega
    simp only [stS, stLp, loopN, e_q43_0, B_q43_0, go_sem, List.length_map, hi]
    exact ⟨_, rfl, _, rfl⟩
theorem d_l3Stored {D : Nat} (hD : 10 ≤ D) (t : Tab) (ht : SmallT t) (hs : shapeOk t.first = true) (hall : (chgs t.first t.chg).isSome = true) : den pr D f_q43 [.agg t.c] = some [.q (rowsB t)] := by
  obtain ⟨D, rfl, hd⟩ := pred_of hD
  rw [u_q43]
  have e1 := d_l3Last hd t ht hs
  obtain ⟨out, lo, lp⟩ := lp_l3Stored hd t ht hs hall
  simp only [stS, stLp] at lo
  rw [show ((0 : Nat) : Int) = 0 from rfl] at lo
  unfold rowsB
  cases hq : runI (tabRG t) 0 0 t.rows with
  | inl m =>
    rw [hq] at lp
    obtain ⟨σ', rfl⟩ := lp
    simp only [c_q43, go_sem, e1, List.length_map, rowsSl_col, lo]
  | inr u =>
    rw [hq] at lp
    obtain ⟨σ', rfl, l2⟩ := lp
    simp only [c_q43, go_sem, e1, List.length_map, rowsSl_col, lo, l2]
end Go.Vm.T

/- Values that must be there once, and a table that is right: the reference's. -/
namespace Go.Vm.T
open Go.Proofs
variable [Pr2]
def tw0G (v : Val) (_ : Nat) (_ : Unit) (y : Val) : Unit ⊕ Unit := bif !decide (v.k = 0) && decide (v = y) then .inr () else .inl ()
theorem tw0_run (v : Val) : ∀ (l : List Val) (i : Nat), runI (tw0G v) i () l = bif !decide (v.k = 0) && decide (v ∈ l) then .inr () else .inl ()
  | [], i => by simp [runI]
  | y :: l, i => by
    unfold runI
    rw [show tw0G v i () y = bif !decide (v.k = 0) && decide (v = y) then .inr () else .inl () from rfl]
    have ih := tw0_run v l (i + 1)
    by_cases h0 : v.k = 0
    · simp only [h0, decide_true, Bool.not_true, Bool.false_and, cond_false] at ih ⊢
      exact ih
    · by_cases h : v = y
      · simp only [h0, h, decide_true, decide_false, Bool.not_false, Bool.true_and, cond_true, List.mem_cons, true_or]
        rw [show decide (y.k = 0) = false from by rw [← h]; simp [h0]]
        rfl
      · simp only [h0, h, decide_false, Bool.not_false, Bool.true_and, cond_false, List.mem_cons, false_or] at ih ⊢
        exact ih
def tw1G (vs : List Val) (i : Nat) (_ : Unit) (v : Val) : Unit ⊕ Unit := runI (tw0G v) 0 () (vs.take i)
def tw2G (es : List (List Val)) (k : Nat) (_ : Unit) (c : ColV) : Unit ⊕ Unit := if c.once = true then runI (tw1G (es.map fun r => r.getD k zV)) 0 () (es.map fun r => r.getD k zV) else .inl ()
def twB (s : List ColV) (es : List (List Val)) : Bool := match runI (tw2G es) 0 () s with
  | .inl _ => false
  | .inr _ => true
theorem tw1_one (c : ColV) (hc : c.once = true) (vs : List Val) : ∀ (l pre keys : List Val), vs = pre ++ l → (∀ x, x ∈ keys ↔ x ∈ pre) →
    ((∃ ks, runI (oneG c) pre.length keys l = .inl ks) ∧ runI (tw1G vs) pre.length () l = .inl ()) ∨ (runI (oneG c) pre.length keys l = .inr () ∧ runI (tw1G vs) pre.length () l = .inr ())
  | [], pre, keys, _, _ => .inl ⟨⟨keys, rfl⟩, rfl⟩
  | v :: l, pre, keys, hv, hk => by
    have hp : vs.take pre.length = pre := by rw [hv]; simp
    unfold runI
    have e1 : tw1G vs pre.length () v = bif !decide (v.k = 0) && decide (v ∈ pre) then .inr () else .inl () := by
      unfold tw1G
      rw [hp, tw0_run]
    have e2 : oneG c pre.length keys v = if v.k ≠ 0 ∧ v ∈ pre then .inr () else .inl (addV keys v) := by
      unfold oneG
      simp only [hc, true_and, hk v]
    rw [e1, e2]
    by_cases h : v.k ≠ 0 ∧ v ∈ pre
    · right
      rw [if_pos h]
      simp [h.1, h.2]
    · rw [if_neg h]
      have hb : (!decide (v.k = 0) && decide (v ∈ pre)) = false := by
        cases q : (!decide (v.k = 0) && decide (v ∈ pre)) with
        | false => rfl
        | true => simp at q; exact absurd q h
      rw [hb, cond_false]
      simp only
      have ih := tw1_one c hc vs l (pre ++ [v]) (addV keys v) (by rw [hv]; simp) (fun x => by
        unfold addV
        split
        · rename_i hin
          rw [hk x]
          constructor
          · intro h; simp [h]
          · intro h
            rcases List.mem_append.1 h with h | h
            · exact h
            · rw [List.mem_singleton.1 h]; exact (hk v).1 hin
        · simp only [List.mem_append, hk x])
      rw [List.length_append] at ih
      exact ih
theorem one_false (c : ColV) (hc : c.once = false) : ∀ (l keys : List Val) (i : Nat), ∃ ks, runI (oneG c) i keys l = .inl ks
  | [], keys, i => ⟨keys, rfl⟩
  | v :: l, keys, i => by
    unfold runI
    have e2 : oneG c i keys v = .inl (addV keys v) := by unfold oneG; simp [hc]
    rw [e2]
    exact one_false c hc l _ _
theorem tw2_tab (t : Tab) : ∀ (s : List ColV) (k : Nat), runI (tw2G (t.rows.map (nowV t))) k () s = runI (tabG t) k () s
  | [], k => rfl
  | c :: s, k => by
    have ih := tw2_tab t s (k + 1)
    have e : (t.rows.map (nowV t)).map (fun r => r.getD k zV) = colVals t k := by unfold colVals; simp
    have h : tw2G (t.rows.map (nowV t)) k () c = tabG t k () c := by
      unfold tw2G tabG oneB
      rw [e]
      cases hc : c.once with
      | true =>
        rw [if_pos rfl]
        rcases tw1_one c hc (colVals t k) (colVals t k) [] [] rfl (fun x => Iff.rfl) with ⟨⟨ks, h1⟩, h2⟩ | ⟨h1, h2⟩
        · simp only [List.length_nil] at h1 h2
          rw [h1, h2]; rfl
        · simp only [List.length_nil] at h1 h2
          rw [h1, h2]; rfl
      | false =>
        obtain ⟨ks, h1⟩ := one_false c hc (colVals t k) [] 0
        rw [h1]
        rfl
    unfold runI
    rw [h]
    cases tabG t k () c with
    | inl _ => exact ih
    | inr _ => rfl
theorem twB_tab (t : Tab) : twB (shapeT t) (t.rows.map (nowV t)) = !tabB t := by
  unfold twB tabB
  rw [tw2_tab]
  cases runI (tabG t) 0 () (shapeT t) <;> rfl
abbrev twS2 (s : List ColV) (es : List (List Val)) (c : Nat) : St := ⟨upd (upd (upd (fun _ => .bad) 0 (.lit t_impl_Col (s.map ColV.c))) 1 (.lit t_S_impl_Val (es.map valsC))) 5 (.n c), fun _ => none, 0, 0⟩
abbrev twS1 (s : List ColV) (es : List (List Val)) (c i : Nat) : St := ⟨upd (upd (upd (upd (fun _ => .bad) 0 (.lit t_impl_Col (s.map ColV.c))) 1 (.lit t_S_impl_Val (es.map valsC))) 5 (.n c)) 6 (.n i), fun _ => none, 0, 0⟩
abbrev twS0 (s : List ColV) (es : List (List Val)) (c i k : Nat) : St := ⟨upd (upd (upd (upd (upd (fun _ => .bad) 0 (.lit t_impl_Col (s.map ColV.c))) 1 (.lit t_S_impl_Val (es.map valsC))) 5 (.n c)) 6 (.n i)) 7 (.n k), fun _ => none, 0, 0⟩
structure TwOk (s : List ColV) (es : List (List Val)) : Prop where
  cl : s.length ≤ big
  el : es.length ≤ big
  len : ∀ r ∈ es, r.length = s.length
theorem getD_at {r : List Val} {c : Nat} (h : c < r.length) : r[c]? = some (r.getD c zV) := by
  rw [List.getD_eq_getElem?_getD, List.getElem?_eq_getElem h]; rfl
theorem lp_tw0 (E : Env) (s : List ColV) (es : List (List Val)) (H : TwOk s es) (c i : Nat) (ri : List Val) (hi : es[i]? = some ri) (hc : c < s.length) :
    Ended (loopN (exec E b_spec_l3Twice_0) [0, 1, 5, 6, 7] rounds (twS0 s es c i 0)) Unit Unit (runI (tw0G (ri.getD c zV)) 0 () ((es.map fun r => r.getD c zV).take i))
      (fun _ o => ∃ σ', o = .exit 4 σ' ∧ σ'.n = 0 ∧ σ'.base = 0 ∧ σ'.s 0 = .lit t_impl_Col (s.map ColV.c) ∧ σ'.s 1 = .lit t_S_impl_Val (es.map valsC) ∧ σ'.s 5 = .n c ∧ σ'.s 6 = .n i) (fun _ o => ∃ σ', o = .ret σ' ∧ σ'.s 4 = .q true) := by
  have hil : i < es.length := (List.getElem?_eq_some_iff.1 hi).1
  have htl : ((es.map fun r => r.getD c zV).take i).length = i := by simp; omega
  have hel := H.el
  have hrl := H.len ri (List.mem_of_getElem? hi)
  refine loop_all ((es.map fun r => r.getD c zV).take i) (fun k _ => twS0 s es c i k) (tw0G (ri.getD c zV)) (fun _ _ => True) _ _ () trivial (by omega) (fun k _ y K hy hlt _ => ?_) (fun _ K _ => ?_)
  · rw [htl] at hlt
    rw [List.getElem?_take, if_pos hlt, List.getElem?_map] at hy
    obtain ⟨rk, hk, rfl⟩ := Option.map_eq_some_iff.1 hy
    have hkl := H.len rk (List.mem_of_getElem? hk)
    have hx := map_at (f := valsC) hi
    have hxk := map_at (f := valsC) hk
    have hv := map_at (f := Val.c) (getD_at (r := ri) (c := c) (by omega))
    have hvk := map_at (f := Val.c) (getD_at (r := rk) (c := c) (by omega))
    have hc1 : c < ri.length := by omega
    have hc2 : c < rk.length := by omega
    have hkes : k < es.length := by omega
    have hw := wrap_nat (n := k) (by unfold big at hel; omega)
    unfold tw0G
    generalize ri.getD c zV = v at *
    generalize rk.getD c zV = w at *
    have ht : (!decide (v.k = 0) && decide (v = w)) = (!decide (v.k = 0) && decide (v = w)) := rfl
    rcases pf (v.k = 0) with p | p
    · simp only [twS0, loopN, e_spec_l3Twice_0, B_spec_l3Twice_0, go_sem, List.length_map, hx, hxk, hv, hvk, hc1, hc2, hkes, hil, hlt, hw, p, val_eq]
    · simp only [p, decide_false, Bool.not_false, Bool.true_and]
      have q0 : ∀ b : Bool, decide (v = w) = b → ∀ K, (bif b then ∃ out, loopN (exec E b_spec_l3Twice_0) [0, 1, 5, 6, 7] (K + 1) (twS0 s es c i k) = some out ∧ ∃ σ', out = .ret σ' ∧ σ'.s 4 = .q true else loopN (exec E b_spec_l3Twice_0) [0, 1, 5, 6, 7] (K + 1) (twS0 s es c i k) = loopN (exec E b_spec_l3Twice_0) [0, 1, 5, 6, 7] K (twS0 s es c i (k + 1))) := by
        intro b hb K
        cases b with
        | true => simp only [twS0, loopN, e_spec_l3Twice_0, B_spec_l3Twice_0, go_sem, List.length_map, hx, hxk, hv, hvk, hc1, hc2, hkes, hil, hlt, hw, p, val_eq, hb]; exact ⟨_, rfl, _, rfl, rfl⟩
        | false => simp only [twS0, loopN, e_spec_l3Twice_0, B_spec_l3Twice_0, go_sem, List.length_map, hx, hxk, hv, hvk, hc1, hc2, hkes, hil, hlt, hw, p, val_eq, hb]
      have q := q0 _ rfl K
      cases hb : decide (v = w) with
      | true => rw [hb] at q; simp only [cond_true] at q ⊢; exact q
      | false => rw [hb] at q; simp only [cond_false] at q ⊢; exact ⟨q, trivial⟩
  · rw [htl]
    have hi : ¬ i < i := by omega
    simp only [twS0, loopN, e_spec_l3Twice_0, B_spec_l3Twice_0, go_sem, List.length_map, hi]
    exact ⟨_, rfl, _, rfl, rfl, rfl, rfl, rfl, rfl, rfl⟩
theorem lp_tw1 (E : Env) (s : List ColV) (es : List (List Val)) (H : TwOk s es) (c : Nat) (col : ColV) (hc : s[c]? = some col) (ho : col.once = true) :
    Ended (loopN (exec E b_spec_l3Twice_1) [0, 1, 5, 6] rounds (twS1 s es c 0)) Unit Unit (runI (tw1G (es.map fun r => r.getD c zV)) 0 () (es.map fun r => r.getD c zV))
      (fun _ o => ∃ σ', o = .exit 2 σ' ∧ σ'.n = 0 ∧ σ'.base = 0 ∧ σ'.s 0 = .lit t_impl_Col (s.map ColV.c) ∧ σ'.s 1 = .lit t_S_impl_Val (es.map valsC) ∧ σ'.s 5 = .n c) (fun _ o => ∃ σ', o = .ret σ' ∧ σ'.s 4 = .q true) := by
  have hcl : c < s.length := (List.getElem?_eq_some_iff.1 hc).1
  have hel := H.el
  have hcx := map_at (f := ColV.c) hc
  refine loop_all (es.map fun r => r.getD c zV) (fun i _ => twS1 s es c i) (tw1G (es.map fun r => r.getD c zV)) (fun _ _ => True) _ _ () trivial (by rw [List.length_map]; omega) (fun i _ v K hv hlt _ => ?_) (fun _ K _ => ?_)
  · rw [List.length_map] at hlt
    rw [List.getElem?_map] at hv
    obtain ⟨ri, hi, rfl⟩ := Option.map_eq_some_iff.1 hv
    have hw := wrap_nat (n := i) (by unfold big at hel; omega)
    obtain ⟨out, lo, lp⟩ := lp_tw0 E s es H c i ri hi hcl
    simp only [twS0] at lo
    rw [show ((0 : Nat) : Int) = 0 from rfl] at lo
    unfold tw1G
    cases hq : runI (tw0G (ri.getD c zV)) 0 () ((es.map fun r => r.getD c zV).take i) with
    | inl u =>
      rw [hq] at lp
      obtain ⟨σ', rfl, m1, m2, l1, l2, l3, l4⟩ := lp
      simp only [twS1, loopN, e_spec_l3Twice_1, B_spec_l3Twice_1, go_sem, List.length_map, hcx, hcl, hlt, hw, ho, lo, m1, m2, l1, l2, l3, l4]
    | inr u =>
      rw [hq] at lp
      obtain ⟨σ', rfl, l1⟩ := lp
      simp only [twS1, loopN, e_spec_l3Twice_1, B_spec_l3Twice_1, go_sem, List.length_map, hcx, hcl, hlt, hw, ho, lo]
      exact ⟨_, rfl, _, rfl, l1⟩
  · rw [List.length_map]
    have hi : ¬ es.length < es.length := by omega
    simp only [twS1, loopN, e_spec_l3Twice_1, B_spec_l3Twice_1, go_sem, List.length_map, hi, hcx, hcl]
    exact ⟨_, rfl, _, rfl, rfl, rfl, rfl, rfl, rfl⟩
theorem lp_tw2 (E : Env) (s : List ColV) (es : List (List Val)) (H : TwOk s es) :
    Ended (loopN (exec E b_spec_l3Twice_2) [0, 1, 5] rounds (twS2 s es 0)) Unit Unit (runI (tw2G es) 0 () s) (fun _ o => ∃ σ', o = .exit 0 σ') (fun _ o => ∃ σ', o = .ret σ' ∧ σ'.s 4 = .q true) := by
  have hel := H.el
  have hcl := H.cl
  refine loop_all s (fun c _ => twS2 s es c) (tw2G es) (fun _ _ => True) _ _ () trivial hcl (fun c _ col K hc hlt _ => ?_) (fun _ K _ => ?_)
  · have hcx := map_at (f := ColV.c) hc
    have hw := wrap_nat (n := c) (by unfold big at hcl; omega)
    unfold tw2G
    cases ho : col.once with
    | false =>
      have lo : ∃ σ', loopN (exec E b_spec_l3Twice_1) [0, 1, 5, 6] rounds (twS1 s es c 0) = some (.exit 2 σ') ∧ σ'.n = 0 ∧ σ'.base = 0 ∧ σ'.s 0 = .lit t_impl_Col (s.map ColV.c) ∧ σ'.s 1 = .lit t_S_impl_Val (es.map valsC) ∧ σ'.s 5 = .n c := by
        obtain ⟨K, hK⟩ : ∃ K, rounds = K + 1 := ⟨rounds - 1, by have := lt_rounds hcl; omega⟩
        rw [hK]
        rcases pf (0 < es.length) with hz | hz
        · simp only [twS1, loopN, e_spec_l3Twice_1, B_spec_l3Twice_1, go_sem, List.length_map, hcx, hlt, ho, hz]
          exact ⟨_, rfl, rfl, rfl, rfl, rfl, rfl⟩
        · simp only [twS1, loopN, e_spec_l3Twice_1, B_spec_l3Twice_1, go_sem, List.length_map, hcx, hlt, ho, hz]
          exact ⟨_, rfl, rfl, rfl, rfl, rfl, rfl⟩
      obtain ⟨σ', lo, m1, m2, l1, l2, l3⟩ := lo
      simp only [twS1] at lo
      rw [show ((0 : Nat) : Int) = 0 from rfl] at lo
      rw [if_neg (by simp)]
      simp only [twS2, loopN, e_spec_l3Twice_2, B_spec_l3Twice_2, go_sem, List.length_map, hlt, hw, lo, m1, m2, l1, l2, l3]
    | true =>
      rw [if_pos rfl]
      obtain ⟨out, lo, lp⟩ := lp_tw1 E s es H c col hc ho
      simp only [twS1] at lo
      rw [show ((0 : Nat) : Int) = 0 from rfl] at lo
      cases hq : runI (tw1G (es.map fun r => r.getD c zV)) 0 () (es.map fun r => r.getD c zV) with
      | inl u =>
        rw [hq] at lp
        obtain ⟨σ', rfl, m1, m2, l1, l2, l3⟩ := lp
        simp only [twS2, loopN, e_spec_l3Twice_2, B_spec_l3Twice_2, go_sem, List.length_map, hlt, hw, lo, m1, m2, l1, l2, l3]
      | inr u =>
        rw [hq] at lp
        obtain ⟨σ', rfl, l1⟩ := lp
        simp only [twS2, loopN, e_spec_l3Twice_2, B_spec_l3Twice_2, go_sem, List.length_map, hlt, hw, lo]
        exact ⟨_, rfl, _, rfl, l1⟩
  · have hi : ¬ s.length < s.length := by omega
    simp only [twS2, loopN, e_spec_l3Twice_2, B_spec_l3Twice_2, go_sem, List.length_map, hi]
    exact ⟨_, rfl, _, rfl⟩
theorem d_l3Twice {D : Nat} (hD : 1 ≤ D) (s : List ColV) (es : List (List Val)) (H : TwOk s es) : den pr D f_spec_l3Twice [.lit t_impl_Col (s.map ColV.c), .lit t_S_impl_Val (es.map valsC)] = some [.q (twB s es)] := by
  obtain ⟨D, rfl, hd⟩ := pred_of hD
  rw [u_spec_l3Twice]
  obtain ⟨out, lo, lp⟩ := lp_tw2 ⟨den pr D, dcl pr D⟩ s es H
  simp only [twS2] at lo
  rw [show ((0 : Nat) : Int) = 0 from rfl] at lo
  unfold twB
  cases hq : runI (tw2G es) 0 () s with
  | inl u =>
    rw [hq] at lp
    obtain ⟨σ', rfl⟩ := lp
    simp only [c_spec_l3Twice, go_sem, List.length_map, lo]
  | inr u =>
    rw [hq] at lp
    obtain ⟨σ', rfl, l2⟩ := lp
    simp only [c_spec_l3Twice, go_sem, List.length_map, lo, l2]
end Go.Vm.T

/- A table that is right, and sums: the reference's. -/
namespace Go.Vm.T
open Go.Proofs
variable [Pr2]
def g40 : List G := [.g 37 false (.un 40 .not (.t 39)), .o (.pick 41 (.t 37) (.k (.v (.bool true))) (.t 40))]
def tl40 (E : Env) (σ : St) (o : Option A) : Nat → A := match bnd (underS false σ (some 39) o none) (steps E 0 g40) with | some τ => τ.s | none => σ.s
theorem tail40 (E : Env) (σ : St) (o : Option A) (k : Option St) (h : σ.s 37 = .q true) : bnd (underS false σ (some 39) o k) (steps E 0 [.g 37 false (.un 40 .not (.t 39)), .o (.pick 41 (.t 37) (.k (.v (.bool true))) (.t 40))]) = some ⟨upd (tl40 E σ o) 41 (.q true), σ.h, σ.n, σ.base⟩ := by
  have key : ∃ f, bnd (underS false σ (some 39) o none) (steps E 0 g40) = some ⟨upd f 41 (.q true), σ.h, σ.n, σ.base⟩ := by
    rw [underS_jk]
    obtain ⟨s, hp, n, b⟩ := σ
    simp only at h
    simp only [g40, go_sem, h, underS_jk, underV_jk]
    rw [bq]
    exact ⟨_, rfl⟩
  obtain ⟨f, hf⟩ := key
  have : tl40 E σ o = upd f 41 (.q true) := by unfold tl40; rw [hf]
  rw [this, underS_jk, ← underS_jk _ _ _ none]
  rw [show upd (upd f 41 (.q true)) 41 (.q true) = upd f 41 (.q true) from by funext i; simp only [upd_apply]; split <;> rfl]
  exact hf
theorem d_spec_TableOk {D : Nat} (hD : 11 ≤ D) (t : Tab) (ht : SmallT t) : den pr D f_spec_TableOk [.agg t.c] = some [.q (tableOk t)] := by
  obtain ⟨D, rfl, hd⟩ := pred_of hD
  rw [u_spec_TableOk]
  have e1 := d_spec_ShapeAll (show 7 ≤ D by omega) t.first t.chg ht.cols ht.chg ht.glen
  have i1 : ((8 : Int) < (t.chg.length : Int)) = ¬ (t.chg.length ≤ 8) := by rw [eq_iff_iff]; omega
  have i2 : ((8 : Int) < (t.rows.length : Int)) = ¬ (t.rows.length ≤ 8) := by rw [eq_iff_iff]; omega
  unfold tableOk
  cases p1 : (shAll t.first t.chg).isSome with
  | false =>
    rw [p1] at e1
    rw [Bool.false_and]
    simp only [c_spec_TableOk, go_sem, e1, List.length_map, rowsSl_col, i1, i2, tail40]
  | true =>
    rw [p1] at e1
    have hs : shapeOk t.first = true := by
      unfold shAll at p1
      split at p1
      · rename_i hs; exact hs
      · cases p1
    have hall : (chgs t.first t.chg).isSome = true := by unfold shAll at p1; rw [if_pos hs] at p1; exact p1
    have e3 := d_l3Stored (show 10 ≤ D by omega) t ht hs hall
    have e4 := d_l3Last (show 9 ≤ D by omega) t ht hs
    have iN : inB t.next 1 60 = (!decide (t.next < 1) && !decide (60 < t.next)) := by
      unfold inB
      rw [← decide_not, ← decide_not]
      congr 1 <;> exact decide_eq_decide.2 (by omega)
    rw [Bool.true_and, iN]
    rcases pf (t.chg.length ≤ 8) with h1 | h1
    · rcases pf (t.rows.length ≤ 8) with h2 | h2
      · rcases pf (t.next < 1) with h3 | h3
        · simp only [c_spec_TableOk, go_sem, e1, e3, List.length_map, rowsSl_col, i1, i2, h1, h2, h3]
        · rcases pf (60 < t.next) with h4 | h4
          · simp only [c_spec_TableOk, go_sem, e1, e3, List.length_map, rowsSl_col, i1, i2, h1, h2, h3, h4]
          · cases hB : rowsB t with
            | false =>
              rw [hB] at e3
              simp only [c_spec_TableOk, go_sem, e1, e3, List.length_map, rowsSl_col, i1, i2, h1, h2, h3, h4]
            | true =>
              rw [hB] at e3
              have hn : ∀ r ∈ t.rows, NowOk t r := by
                have hB' := hB
                unfold rowsB at hB'
                split at hB'
                · rename_i m hm
                  exact rowsB_at hm hall (fun r h => (ht.vals r h).1)
                · cases hB'
              have e5 := d_l3All (show 10 ≤ D by omega) t ht hs hn
              obtain ⟨s2, hs2⟩ := Option.isSome_iff_exists.1 hall
              have hsT : shapeT t = s2 := by unfold shapeT; rw [hs2]; rfl
              have hsh : shapeOk (shapeT t) = true := by rw [hsT]; exact chgs_shape hs hs2
              have e6 := d_l3Twice (show 1 ≤ D by omega) (shapeT t) (t.rows.map (nowV t)) ⟨by have := (shape_small hsh).2; omega, by rw [List.length_map]; exact ht.rlen, fun r hr => by
                obtain ⟨x, hx, rfl⟩ := List.mem_map.1 hr
                exact now_len (hn x hx)⟩
              rw [twB_tab] at e6
              have e7 : (!!tabB t) = tabB t := Bool.not_not _
              generalize hm : t.rows.map (nowV t) = m at *
              have htm : (m.map valsC).take m.length = m.map valsC := List.take_of_length_le (by simp)
              have hts : ((shapeT t).map ColV.c).take (shapeT t).length = (shapeT t).map ColV.c := List.take_of_length_le (by simp)
              simp only [c_spec_TableOk, go_sem, e1, e3, e4, e5, e6, e7, List.length_map, rowsSl_col, i1, i2, h1, h2, h3, h4, htm, hts, Bool.not_not, Nat.le_refl, if_true, ite_self, true_and]
      · simp only [c_spec_TableOk, go_sem, e1, e3, List.length_map, rowsSl_col, i1, i2, h1, h2]
    · simp only [c_spec_TableOk, go_sem, e1, e3, List.length_map, rowsSl_col, i1, i2, h1]
end Go.Vm.T

/- Sums: the reference's. -/
namespace Go.Vm.T
open Go.Proofs
variable [Pr2]
def g19 : List G := [.g 16 false (.mv 19 (.t 2)), .g 16 false (.call (some 20) 1 0 f_spec_l2At [(.t 18), (.t 19)]), .g 16 false (.bin 21 .lss (.t 20) (.k (.v (.int .i64 0)))), .o (.pick 22 (.t 16) (.k (.v (.bool true))) (.t 21)), .o (.mv 23 (.t 22)), .g 23 false (.ld 24 4 true (.t 3)), .g 23 false (.mv 25 (.t 1)), .g 23 false (.call (some 26) 1 0 f_spec_l7There [(.t 24), (.t 25)]), .g 23 false (.un 27 .not (.t 26)), .o (.pick 28 (.t 23) (.k (.v (.bool true))) (.t 27))]
end Go.Vm.T
end
