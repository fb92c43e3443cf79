/-
  What the functions under the law compute, of rows and tables
-/
import Derived.Test.YtcceojmajfinpaaGreatDoorFnsC
section
set_option linter.unusedVariables false
set_option linter.unusedSectionVars false
set_option linter.unusedSimpArgs false
namespace Go.Vm.T
structure RowV where
 id : Int
 ver : Int
 vals : List Val
 deriving DecidableEq
abbrev RowV.c (r : RowV) : List A := [.n r.id, .n r.ver, .lit Z1 (r.vals.map Val.c)]
structure Tab where
 first : List ColV
 chg : List Chg
 rows : List RowV
 next : Int
 deriving DecidableEq
abbrev Tab.c (t : Tab) : List A := [.lit Z0 (t.first.map ColV.c), .lit Z4 (t.chg.map Chg.c), .lit Z5 (t.rows.map RowV.c), .n t.next]
structure SmallT (t : Tab) : Prop where
 cols : SmallC t.first
 clen : t.first.length + 1 ≤ big
 chg : ∀ c ∈ t.chg, SmallG c
 glen : t.chg.length ≤ big
 rlen : t.rows.length ≤ big
 vals : ∀ r ∈ t.rows, Z2x r.vals ∧ r.vals.length + 1 ≤ big
def rOk (s : List ColV) (i : Nat) (v : Val) : Bool := match s[i]? with
 | some c => Z31 v && (fitK v c.k && !(c.need && decide (v.k = 0)))
 | none => false
def rowG (s : List ColV) (i : Nat) (_ : Unit) (v : Val) : Unit ⊕ Unit := bif rOk s i v then .inl () else .inr ()
def Z7o (s : List ColV) (row : List Val) : Bool := decide (row.length = s.length) && (match runI (rowG s) 0 () row with | .inl _ => true | .inr _ => false)
variable [Pr1]
theorem Zxv {D : Nat} (hD : 2 ≤ D) (s : List ColV) (row : List Val) (hr : Z2x row) (hl : row.length = s.length) (hb : row.length ≤ big) :
 Xr (Z9 (exec ⟨den pr D, dcl pr D, dfl pr D⟩ Z3n) [0, 12, 13, 14] rounds ⟨upd (upd (upd (upd (fun _ => .bad) 0 (.lit Z0 (s.map ColV.c))) 12 (.lit Z1 (row.map Val.c))) 13 (.n row.length)) 14 (.n (0 : Nat)), fun _ => none, 0, 0⟩) Unit Unit (runI (rowG s) 0 () row)
  (fun _ o => ∃ σ', o = .exit 0 σ') (fun _ o => ∃ σ', o = .ret σ' ∧ σ'.s 4 = .q false) := by
 refine Zh row (fun i (_ : Unit) => ⟨upd (upd (upd (upd (fun _ => .bad) 0 (.lit Z0 (s.map ColV.c))) 12 (.lit Z1 (row.map Val.c))) 13 (.n row.length)) 14 (.n i), fun _ => none, 0, 0⟩) (rowG s) (fun _ _ => True) _ _ () trivial hb (fun i _ v K hv hlt _ => ?_) (fun _ K _ => ?_)
 · have hx := Zq (f := Val.c) hv
   have hw := Zf (n := i) (by unfold big at hb; omega)
   have hs : s[i]? = some s[i] := List.getElem?_eq_getElem (by omega)
   unfold rowG rOk
   rw [hs]
   generalize s[i] = c at hs
   have hc := Zq (f := ColV.c) hs
   have his : i < s.length := by omega
   have e1 := Zgf hD v (hr v (List.mem_of_getElem? hv))
   have e2 := Zyj (show 1 ≤ D by omega) v c.k
   obtain ⟨vk, vn, vt⟩ := v
   obtain ⟨cn, ck, need, once, cd⟩ := c
   simp only at e1 e2 ⊢
   generalize Z31 ⟨vk, vn, vt⟩ = q1 at *
   generalize fitK ⟨vk, vn, vt⟩ ck = q2 at *
   cases q1 with
   | false =>
     simp only [Z9, Vp, Xm, go_sem, List.length_map, hx, hlt, hw, e1, e2, hc, his]
     exact ⟨_, rfl, _, rfl, rfl⟩
   | true =>
     cases q2 with
     | false =>
       simp only [Z9, Vp, Xm, go_sem, List.length_map, hx, hlt, hw, e1, e2, hc, his]
       exact ⟨_, rfl, _, rfl, rfl⟩
     | true =>
       cases need with
       | false =>
         simp only [Z9, Vp, Xm, go_sem, List.length_map, hx, hlt, hw, e1, e2, hc, his]
       | true =>
         rcases pf (vk = 0) with h0 | h0
         · simp only [Z9, Vp, Xm, go_sem, List.length_map, hx, hlt, hw, e1, e2, hc, his, h0]
           exact ⟨_, rfl, _, rfl, rfl⟩
         · simp only [Z9, Vp, Xm, go_sem, List.length_map, hx, hlt, hw, e1, e2, hc, his, h0]
 · have hi : ¬ row.length < row.length := by omega
   simp only [Z9, Vp, Xm, go_sem, List.length_map, hi]
   exact ⟨_, rfl, _, rfl⟩
theorem Zrc {D : Nat} (hD : 3 ≤ D) (s : List ColV) (row : List Val) (hr : Z2x row) (hb : row.length ≤ big) : den pr D Yb [.lit Z0 (s.map ColV.c), .lit Z1 (row.map Val.c)] = some [.q (Z7o s row)] := by
 obtain ⟨D, rfl, hd⟩ := Z8 hD
 rw [Zih]
 unfold Z7o
 by_cases hl : row.length = s.length
 · obtain ⟨out, lo, lp⟩ := Zxv hd s row hr hl hb
   rw [show ((0 : Nat) : Int) = 0 from rfl] at lo
   have hli : ((row.length : Int) = (s.length : Int)) = True := by rw [hl]; simp
   rw [show decide (row.length = s.length) = true from by simp [hl], Bool.true_and]
   cases hq : runI (rowG s) 0 () row with
   | inl u =>
     rw [hq] at lp
     obtain ⟨σ', rfl⟩ := lp
     simp only [c_impl_rowOk, go_sem, List.length_map, lo, hli]
   | inr u =>
     rw [hq] at lp
     obtain ⟨σ', rfl, l2⟩ := lp
     simp only [c_impl_rowOk, go_sem, List.length_map, lo, l2, hli]
 · have hli : ((row.length : Int) = (s.length : Int)) = False := eq_false (by omega)
   simp only [c_impl_rowOk, go_sem, List.length_map, hl, hli]
def Z3k (s : List ColV) (cs : List Chg) : Option (List ColV) := if Zk s = true then chgs s cs else none
theorem Zpt {D : Nat} (hD : 7 ≤ D) (s : List ColV) (cs : List Chg) (hs : SmallC s) (hl : s.length + 1 ≤ big) (hc : ∀ c ∈ cs, SmallG c) (hcl : cs.length ≤ big) :
 den pr D Zm9 [.lit Z0 (s.map ColV.c), .lit Z4 (cs.map Chg.c)] = some [.olit Z0 (((Z3k s cs).getD []).map ColV.c), .q (Z3k s cs).isSome] := by
 obtain ⟨D, rfl, hd⟩ := Z8 hD
 rw [Y4t]
 have e1 := Z82 (show 4 ≤ D by omega) s hs
 have e2 := Z8o hd s cs hs hl hc hcl
 unfold Z3k
 cases h : Zk s with
 | false =>
   rw [h] at e1
   simp only [c_q65, go_sem, e1, Bool.false_eq_true, if_false, Option.getD_none, Option.isSome_none, List.map_nil]
 | true =>
   rw [h] at e1
   simp only [c_q65, go_sem, e1, e2, if_true, Z6]
theorem Ztw {D : Nat} (hD : 7 ≤ D) (t : Tab) (ht : SmallT t) :
 den pr D Zh5 [.agg t.c] = some [.olit Z0 (((chgs t.first t.chg).getD []).map ColV.c)] := by
 obtain ⟨D, rfl, hd⟩ := Z8 hD
 rw [Y51]
 have e2 := Z8o hd t.first t.chg ht.cols ht.clen ht.chg ht.glen
 simp only [c_q27, go_sem, e2, Z6, List.length_map, Nat.le_refl]
def nowV (t : Tab) (r : RowV) : List Val := Zca ((chgs t.first (t.chg.take r.ver.toNat)).getD []) (t.chg.drop r.ver.toNat) r.vals
structure NowOk (t : Tab) (r : RowV) : Prop where
 lo : 0 ≤ r.ver
 hi : r.ver ≤ t.chg.length
 all : (chgs t.first t.chg).isSome = true
 len : r.vals.length = ((chgs t.first (t.chg.take r.ver.toNat)).getD []).length
 vals : Z2x r.vals
theorem NowOk.then_ {t : Tab} {r : RowV} (H : NowOk t r) : ∃ s s', chgs t.first (t.chg.take r.ver.toNat) = some s ∧ chgs s (t.chg.drop r.ver.toNat) = some s' ∧ chgs t.first t.chg = some s' := by
 have h := Zfa t.first (t.chg.take r.ver.toNat) (t.chg.drop r.ver.toNat)
 rw [List.take_append_drop] at h
 have ha := H.all
 cases h1 : chgs t.first (t.chg.take r.ver.toNat) with
 | none => rw [h, h1] at ha; cases ha
 | some s =>
   rw [h1] at h
   cases h2 : chgs s (t.chg.drop r.ver.toNat) with
   | none => rw [h] at ha; simp only [h2] at ha; cases ha
   | some s' => exact ⟨s, s', rfl, h2, by rw [h]; exact h2⟩
theorem Za1 {s s' : List ColV} {cs : List Chg} (hs : SmallC s ∧ s.length + 1 ≤ big) (h : chgs s cs = some s') : SmallC s' ∧ s'.length + 1 ≤ big := by
 cases cs with
 | nil => rw [Zfm] at h; cases h; exact hs
 | cons c cs =>
   rw [Z3p] at h
   split at h
   · rename_i hc; exact Xs (Z2l (Z9b hc) h)
   · cases h
theorem Y15 {D : Nat} (hD : 7 ≤ D) (t : Tab) (ht : SmallT t) (r : RowV) (H : NowOk t r) :
 den pr D Zbq [.agg t.c, .agg r.c] = some [.olit Z1 ((nowV t r).map Val.c)] := by
 obtain ⟨D, rfl, hd⟩ := Z8 hD
 rw [Y7h]
 obtain ⟨s, s', h1, h2, h3⟩ := H.then_
 obtain ⟨v, hv⟩ : ∃ v : Nat, r.ver = v := ⟨r.ver.toNat, by have := H.lo; omega⟩
 have hvt : r.ver.toNat = v := by omega
 have hvl : v ≤ t.chg.length := by have := H.hi; omega
 have hlen := H.len
 unfold nowV
 rw [hvt] at h1 h2 hlen ⊢
 rw [h1] at hlen ⊢
 simp only [Option.getD_some] at hlen ⊢
 have hs := Za1 ⟨ht.cols, ht.clen⟩ h1
 have hg := ht.glen
 have e1 := Z8o hd t.first (t.chg.take v) ht.cols ht.clen (fun c hc => ht.chg c (List.mem_of_mem_take hc)) (by rw [List.length_take]; omega)
 rw [h1] at e1
 have e2 := Zki hd s (t.chg.drop v) r.vals (fun c hc => ht.chg c (List.mem_of_mem_drop hc)) (by rw [List.length_drop]; omega) ⟨hs.1, hs.2, H.vals, hlen, by rw [List.drop_zero, h2]; rfl, fun _ => rfl⟩
 have m1 : (t.chg.take v).map Chg.c = (t.chg.map Chg.c).take v := List.map_take
 have m2 : (t.chg.drop v).map Chg.c = (t.chg.map Chg.c).drop v := List.map_drop
 rw [m1] at e1
 rw [m2] at e2
 have v0 : (0 : Int) ≤ (v : Int) := by omega
 have vt : ((v : Int)).toNat = v := by omega
 have htk : ((t.chg.map Chg.c).drop v).take (t.chg.length - v) = (t.chg.map Chg.c).drop v := List.take_of_length_le (by simp)
 have htf : List.take t.chg.length (List.map Chg.c t.chg) = List.map Chg.c t.chg := List.take_of_length_le (by simp)
 have hts : (s.map ColV.c).take s.length = s.map ColV.c := List.take_of_length_le (by simp)
 obtain ⟨rid, rver, rvals⟩ := r
 simp only at hv e2 ⊢
 subst hv
 simp only [c_q28, go_sem, e1, e2, v0, vt, hvl, htk, hts, htf, Option.getD_some, Z6, Zg, List.length_map, Nat.le_refl, Nat.zero_le, Option.isNone_none, and_self, if_true, List.drop_zero, Nat.sub_zero]
end Go.Vm.T
end
