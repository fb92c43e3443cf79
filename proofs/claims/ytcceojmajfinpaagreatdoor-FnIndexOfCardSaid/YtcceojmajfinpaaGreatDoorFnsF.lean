/-
  A table that is right and what is asked, of the program's; shapes, changes, rows, of the reference's
-/
import Derived.Test.YtcceojmajfinpaaGreatDoorFnsE
section
set_option linter.unusedVariables false
set_option linter.unusedSimpArgs false
set_option linter.unusedSectionVars false
namespace Go.Vm.T
open Go.Proofs
def Zc8 (t : Tab) (_ : Nat) (last : Int) (r : RowV) : Int ⊕ Unit :=
 bif inB r.id (last + 1) (t.next - 1) && (inB r.ver 0 t.chg.length && (Z5e ((chgs t.first (t.chg.take r.ver.toNat)).getD []) r.vals && Z5e (Z9 t) (Wf t r))) then .inl r.id else .inr ()
def Zde (t : Tab) : Bool := match Zv (Zc8 t) 0 0 t.rows with | .inl _ => true | .inr _ => false
def V3 (t : Tab) : Bool := (Z6k t.first t.chg).isSome && (decide (t.chg.length <= 8) && (decide (t.rows.length <= 8) && (inB t.next 1 60 && (Zde t && Zp0 t))))
def jk : Option A -> A
 | some a => .ifg false a
 | none => .und
theorem Wj (U : St) (d : Option Nat) (o : Option A) (k : Option St) : Xv false U d o k = some ⟨put U.s d (jk o), U.h, U.n, U.base⟩ := by cases o <;> rfl
theorem Zba (U : St) (d : Option Nat) (o : Option A) : Wi false U d o = some ⟨put U.s d (jk o), U.h, U.n, U.base⟩ := by cases o <;> rfl
theorem Y89 (a : A) : ∃ q, opQ false a = some q := by
 unfold opQ
 split
 . exact ⟨_, rfl⟩
 . exact ⟨_, rfl⟩
 . exact ⟨_, rfl⟩
theorem bq {J : Type} (X a : A) (f : A -> Option J) : bnd (bnd (opQ false X) fun _ => some a) f = f a := by
 obtain ⟨q, hq⟩ := Y89 X
 rw [hq]
 rfl
variable [Pr2]
def g86 : List G := [.g 81 false (.call (some 86) 1 0 Xg [(.t 82), (.t 85)]), .g 81 false (.un 87 .not (.t 86)), .o (.pick 88 (.t 81) (.k (.v (.bool true))) (.t 87))]
noncomputable def Ybb (E : Env) (U : St) (o : Option A) : Nat -> A := match bnd (Xv false U (some 85) o none) (Ze E 1 g86) with | some O => O.s | none => U.s
theorem Y9n (E : Env) (U : St) (o : Option A) (k : Option St) (h : U.s 81 = .q true) : bnd (Xv false U (some 85) o k) (Ze E 1 [.g 81 false (.call (some 86) 1 0 Xg [(.t 82), (.t 85)]), .g 81 false (.un 87 .not (.t 86)), .o (.pick 88 (.t 81) (.k (.v (.bool true))) (.t 87))]) = some ⟨upd (Ybb E U o) 88 (.q true), U.h, U.n, U.base⟩ := by
 have key : ∃ f, bnd (Xv false U (some 85) o none) (Ze E 1 g86) = some ⟨upd f 88 (.q true), U.h, U.n, U.base⟩ := by
  rw [Wj]
  obtain ⟨s, hp, n, b⟩ := U
  simp only at h
  simp only [g86, go_sem, h, Wj, Zba]
  rw [bq]
  exact ⟨_, rfl⟩
 obtain ⟨f, hf⟩ := key
 have : Ybb E U o = upd f 88 (.q true) := by unfold Ybb; rw [hf]
 rw [this, Wj, <- Wj _ _ _ none]
 rw [show upd (upd f 88 (.q true)) 88 (.q true) = upd f 88 (.q true) from by funext i; simp only [Z7]; split <;> rfl]
 exact hf
theorem Zf1 {s : List ColV} {row : List Val} (h : Z5e s row = true) : row.length = s.length := by
 unfold Z5e at h
 simp at h
 exact h.1
structure RowF (D : Nat) (t : Tab) (m : Int) (i v : Nat) (rid : Int) (rvals : List Val) (s : List ColV) : Prop where
 hr : (t.rows.map RowV.c)[i]? = some (RowV.mk rid v rvals).c
 hlt : i < t.rows.length
 hw : IntKind.i64.wrap ((i : Int) + 1) = ((i + 1 : Nat) : Int)
 hw1 : IntKind.i64.wrap (m + 1) = m + 1
 hw2 : IntKind.i64.wrap (t.next - 1) = t.next - 1
 e1 : den pr D Wt [.n rid, .n (m + 1), .n (t.next - 1)] = some [.q true]
 e2 : den pr D Wt [.n v, .n 0, .n t.chg.length] = some [.q true]
 e3 : den pr D Wc [.lit Z0 (t.first.map ColV.c), .lit Z3 ((t.chg.map Chg.c).take v)] = some [.olit Z0 (s.map ColV.c), .q true]
 v0 : (0 : Int) <= (v : Int)
 vt : ((v : Int)).toNat = v
 hvl : v <= t.chg.length
 hts : (s.map ColV.c).take s.length = s.map ColV.c
 htf : List.take t.chg.length (List.map Chg.c t.chg) = List.map Chg.c t.chg
abbrev Y0m (t : Tab) (i : Nat) (m : Int) : St := ⟨upd (upd (upd (upd (upd (upd (fun _ => .bad) 1 (.ptr 0 0 0)) 3 (.ref Z0 1 0 (Z9 t).length (Z9 t).length false)) 5 (.n m)) 39 (.lit Z4 (t.rows.map RowV.c))) 40 (.n t.rows.length)) 41 (.n i), upd (upd (fun _ => none) 0 (cT Z1 [t.c])) 1 (some ⟨Z0, (Z9 t).map ColV.c, true, false⟩), 2, 0⟩
theorem Y7h {D : Nat} {t : Tab} {m : Int} {i v : Nat} {rid : Int} {rvals : List Val} {s : List ColV} (F : RowF D t m i v rid rvals s) (e4 : den pr D Xg [.lit Z0 (s.map ColV.c), .lit Z2 (rvals.map Val.c)] = some [.q false]) (K : Nat) :
 ∃ out, Zd (Zj (aH D) Xy) [1, 3, 5, 39, 40, 41] (K + 1) (Y0m t i m) = some out /\ ∃ U', out = .ret U' /\ U'.s 2 = .q false := by
 obtain ⟨hr, hlt, hw, hw1, hw2, e1, e2, e3, v0, vt, hvl, hts, htf⟩ := F
 simp only [Zd, Wo, Xe, go_sem, dN, hr, hlt, hw1, hw2, e1, e2, e3, e4, v0, vt, hvl, hts, Y9n, Za, dO, dG, fJ, and_self, if_true, dI, fL]
 exact ⟨_, rfl, _, rfl, rfl⟩
theorem Y8u {D : Nat} {t : Tab} {m : Int} {i v : Nat} {rid : Int} {rvals : List Val} {s : List ColV} (F : RowF D t m i v rid rvals s) (e4 : den pr D Xg [.lit Z0 (s.map ColV.c), .lit Z2 (rvals.map Val.c)] = some [.q true])
 (row : List Val) (e5 : den pr D Zfy [.agg t.c, .agg (RowV.mk rid v rvals).c] = some [.olit Z2 (row.map Val.c)]) (e6 : den pr D Xg [.lit Z0 ((Z9 t).map ColV.c), .lit Z2 (row.map Val.c)] = some [.q true]) (K : Nat) :
 Zd (Zj (aH D) Xy) [1, 3, 5, 39, 40, 41] (K + 1) (Y0m t i m) = Zd (Zj (aH D) Xy) [1, 3, 5, 39, 40, 41] K (Y0m t (i + 1) rid) := by
 obtain ⟨hr, hlt, hw, hw1, hw2, e1, e2, e3, v0, vt, hvl, hts, htf⟩ := F
 have j1 := Zb Val.c row
 have j0 := Zb ColV.c (Z9 t)
 simp only [Zd, Wo, Xe, go_sem, dN, hr, hlt, hw, hw1, hw2, e1, e2, e3, e4, e5, e6, v0, vt, hvl, hts, j1, j0, Za, Zp, dO, dG, fJ, and_self, if_true, dI, fL]
theorem Ya7 {D : Nat} {t : Tab} {m : Int} {i v : Nat} {rid : Int} {rvals : List Val} {s : List ColV} (F : RowF D t m i v rid rvals s) (e4 : den pr D Xg [.lit Z0 (s.map ColV.c), .lit Z2 (rvals.map Val.c)] = some [.q true])
 (row : List Val) (e5 : den pr D Zfy [.agg t.c, .agg (RowV.mk rid v rvals).c] = some [.olit Z2 (row.map Val.c)]) (e6 : den pr D Xg [.lit Z0 ((Z9 t).map ColV.c), .lit Z2 (row.map Val.c)] = some [.q false]) (K : Nat) :
 ∃ out, Zd (Zj (aH D) Xy) [1, 3, 5, 39, 40, 41] (K + 1) (Y0m t i m) = some out /\ ∃ U', out = .ret U' /\ U'.s 2 = .q false := by
 obtain ⟨hr, hlt, hw, hw1, hw2, e1, e2, e3, v0, vt, hvl, hts, htf⟩ := F
 have j1 := Zb Val.c row
 have j0 := Zb ColV.c (Z9 t)
 simp only [Zd, Wo, Xe, go_sem, dN, hr, hlt, hw1, hw2, e1, e2, e3, e4, e5, e6, v0, vt, hvl, hts, j1, j0, Za, Zp, dO, dG, fJ, and_self, if_true, dI, fL]
 exact ⟨_, rfl, _, rfl, rfl⟩
theorem Zrs {D : Nat} (hD : 8 <= D) (t : Tab) (ht : SmallT t) (hn : 1 <= t.next /\ t.next <= 60) (hall : (chgs t.first t.chg).isSome = true) :
 Vg (Zd (Zj (aH D) Xy) [1, 3, 5, 39, 40, 41] rounds ⟨upd (upd (upd (upd (upd (upd (fun _ => .bad) 1 (.ptr 0 0 0)) 3 (.ref Z0 1 0 (Z9 t).length (Z9 t).length false)) 5 (.n 0)) 39 (.lit Z4 (t.rows.map RowV.c))) 40 (.n t.rows.length)) 41 (.n (0 : Nat)), upd (upd (fun _ => none) 0 (cT Z1 [t.c])) 1 (some ⟨Z0, (Z9 t).map ColV.c, true, false⟩), 2, 0⟩) Int Unit (Zv (Zc8 t) 0 0 t.rows)
  (fun m o => ∃ U', o = .exit 0 U' /\ U'.s 1 = .ptr 0 0 0 /\ U'.h 0 = cT Z1 [t.c]) (fun _ o => ∃ U', o = .ret U' /\ U'.s 2 = .q false) := by
 refine Zt t.rows (fun i (m : Int) => ⟨upd (upd (upd (upd (upd (upd (fun _ => .bad) 1 (.ptr 0 0 0)) 3 (.ref Z0 1 0 (Z9 t).length (Z9 t).length false)) 5 (.n m)) 39 (.lit Z4 (t.rows.map RowV.c))) 40 (.n t.rows.length)) 41 (.n i), upd (upd (fun _ => none) 0 (cT Z1 [t.c])) 1 (some ⟨Z0, (Z9 t).map ColV.c, true, false⟩), 2, 0⟩) (Zc8 t) (fun _ m => 0 <= m /\ m <= 60) _ _ 0 ⟨by omega, by omega⟩ ht.rlen (fun i m r K hc hlt hI => ?_) (fun m K hI => ?_)
 . have hr := Zq (f := RowV.c) hc
   have hw := Zk (n := i) (by have := ht.rlen; unfold big at this; omega)
   have hw1 : IntKind.i64.wrap (m + 1) = m + 1 := wrap_i64 (by omega) (by omega)
   have hw2 : IntKind.i64.wrap (t.next - 1) = t.next - 1 := wrap_i64 (by omega) (by omega)
   have e1 := Y27 (show 1 <= D by omega) r.id (m + 1) (t.next - 1)
   have e2 := Y27 (show 1 <= D by omega) r.ver 0 t.chg.length
   have hv := ht.vals r (dY hc)
   unfold Zc8
   cases p1 : inB r.id (m + 1) (t.next - 1) with
   | false =>
     rw [p1] at e1
     simp only [Zd, Wo, Xe, go_sem, dN, hr, hlt, hw1, hw2, e1, e2]
     exact ⟨_, rfl, _, rfl, rfl⟩
   | true =>
     rw [p1] at e1
     cases p2 : inB r.ver 0 t.chg.length with
     | false =>
       rw [p2] at e2
       simp only [Zd, Wo, Xe, go_sem, dN, hr, hlt, hw1, hw2, e1, e2]
       exact ⟨_, rfl, _, rfl, rfl⟩
     | true =>
       rw [p2] at e2
       obtain ⟨v, j2⟩ : ∃ v : Nat, r.ver = v := ⟨r.ver.toNat, by unfold inB at p2; simp at p2; omega⟩
       have hvl : v <= t.chg.length := by unfold inB at p2; simp at p2; omega
       have j3 : r.ver.toNat = v := by omega
       have j4 := Zdh t.first (t.chg.take v) (t.chg.drop v)
       rw [List.take_append_drop] at j4
       obtain ⟨j1, ja, j0⟩ := r
       simp only at j2 hv e1 e2 p1 p2 j3 hr ⊢
       subst j2
       obtain ⟨s, hs⟩ : ∃ s, chgs t.first (t.chg.take v) = some s := by
        cases hq : chgs t.first (t.chg.take v) with
        | some s => exact ⟨s, rfl⟩
        | none => rw [hq] at j4; rw [j4] at hall; cases hall
       have hg := ht.glen
       have e3 := Zbn (show 6 <= D by omega) t.first (t.chg.take v) ht.cols ht.clen (fun c hc => ht.chg c (fC hc)) (by rw [gS]; omega)
       rw [j3, hs]
       rw [hs] at e3
       simp only [dD, fI] at e3 ⊢
       have e4 := Zxe (show 3 <= D by omega) s j0 hv.1 (by omega)
       have m1 : (t.chg.take v).map Chg.c = (t.chg.map Chg.c).take v := gQ
       rw [m1] at e3
       have v0 := eP v
       have vt := eQ v
       have hts := Zb ColV.c s
       have htf : List.take t.chg.length (List.map Chg.c t.chg) = List.map Chg.c t.chg := dP (by simp)
       have F : RowF D t m i v j1 j0 s := ⟨hr, hlt, hw, hw1, hw2, e1, e2, e3, v0, vt, hvl, hts, htf⟩
       cases p3 : Z5e s j0 with
       | false =>
         rw [p3] at e4
         exact Y7h F e4 K
       | true =>
         rw [p3] at e4
         have hN : NowOk t ⟨j1, v, j0⟩ := ⟨v0, by show (v : Int) <= _; omega, hall, by show j0.length = ((chgs t.first (t.chg.take ((v : Int)).toNat)).getD []).length; rw [j3, hs]; exact Zf1 p3, hv.1⟩
         have e5 := Zwj (show 7 <= D by omega) t ht ⟨j1, v, j0⟩ hN
         have j7 := Z4x (s := s) (cs := t.chg.drop v) hv.1 (fun c hc => ht.chg c (eS hc))
         have j8 := Z3o hN
         have j9 : Wf t ⟨j1, v, j0⟩ = Zek s (t.chg.drop v) j0 := by unfold Wf; simp only [j3, hs, dD]
         have e6 := Zxe (show 3 <= D by omega) (Z9 t) (Wf t ⟨j1, v, j0⟩) (by rw [j9]; exact j7) (by
          rw [j8]
          obtain ⟨s', j6⟩ := eW.1 hall
          have := (Z2c ⟨ht.cols, ht.clen⟩ j6).2
          unfold Z9
          rw [j6]
          simp only [dD]; omega)
         have j5 : 0 <= j1 /\ j1 <= 60 := by unfold inB at p1; simp at p1; omega
         cases p4 : Z5e (Z9 t) (Wf t ⟨j1, v, j0⟩) with
         | false =>
           rw [p4] at e6
           exact Ya7 F e4 _ e5 e6 K
         | true =>
           rw [p4] at e6
           exact ⟨Y8u F e4 _ e5 e6 K, j5⟩
 . have hi : ¬ t.rows.length < t.rows.length := by omega
   simp only [Zd, Wo, Xe, go_sem, hi]
   exact ⟨_, rfl, _, rfl, rfl, rfl⟩
end Go.Vm.T
namespace Go.Vm.T
open Go.Proofs
variable [Pr2]
theorem Zdg {t : Tab} {m : Int} : ∀ {rs : List RowV} {i : Nat} {last : Int}, Zv (Zc8 t) i last rs = .inl m -> (chgs t.first t.chg).isSome = true -> (∀ r ∈ rs, V9 r.vals) -> ∀ r ∈ rs, NowOk t r
 | [], i, last, _, _, _, r, h => by simp at h
 | x :: rs, i, last, hr, hall, hv, r, h => by
   unfold Zv Zc8 at hr
   cases hq : inB x.id (last + 1) (t.next - 1) && (inB x.ver 0 t.chg.length && (Z5e ((chgs t.first (t.chg.take x.ver.toNat)).getD []) x.vals && Z5e (Z9 t) (Wf t x))) with
   | false => rw [hq] at hr; cases hr
   | true =>
     rw [hq] at hr
     rcases eK.1 h with h | h
     . subst h
       simp only [dQ] at hq
       obtain ⟨_, h2, h3, _⟩ := hq
       have j0 : 0 <= r.ver /\ r.ver <= t.chg.length := by unfold inB at h2; simpa using h2
       exact ⟨j0.1, j0.2, hall, Zf1 h3, hv r dC⟩
     . exact Zdg hr hall (fun r h => hv r (eB _ h)) r h
structure TabOk (t : Tab) : Prop where
 once : OnceOk t
 sh : Zl t.first = true
 shape : Zl (Z9 t) = true
 glen : t.chg.length <= 8
 rlen : t.rows.length <= 8
 next : 1 <= t.next /\ t.next <= 60
 rows : Zde t = true
 tab : Zp0 t = true
theorem Z73 {t : Tab} (ht : SmallT t) (h : V3 t = true) : TabOk t := by
 unfold V3 at h
 simp only [dQ, eJ] at h
 obtain ⟨h1, h2, h3, h4, h5, h6⟩ := h
 have hs : Zl t.first = true := by
  unfold Z6k at h1
  split at h1
  . rename_i hs; exact hs
  . cases h1
 unfold Z6k at h1
 rw [if_pos hs] at h1
 obtain ⟨s', j1⟩ := eW.1 h1
 have hr : ∀ r ∈ t.rows, NowOk t r := by
  have j0 := h5
  unfold Zde at j0
  split at j0
  . rename_i m hm
    exact Zdg hm h1 (fun r h => (ht.vals r h).1)
  . cases j0
 exact ⟨⟨ht, h1, hr⟩, hs, by unfold Z9; rw [j1]; exact Z0h hs j1, h2, h3, by unfold inB at h4; simpa using h4, h5, h6⟩
theorem Zbf {D : Nat} (hD : 9 <= D) (t : Tab) (ht : SmallT t) : den pr D V5 [.agg t.c] = some [.q (V3 t)] := by
 obtain ⟨D, rfl, hd⟩ := Zc hD
 rw [Zgb]
 have e1 := Zrp (show 7 <= D by omega) t.first t.chg ht.cols ht.clen ht.chg ht.glen
 have e2 := Y27 (show 1 <= D by omega) t.next 1 60
 unfold V3
 cases p1 : (Z6k t.first t.chg).isSome with
 | false =>
   rw [p1] at e1
   simp only [Wa, go_sem, e1, e2, dN, Za]
 | true =>
   rw [p1] at e1
   have j1 : (Z6k t.first t.chg).getD [] = Z9 t := by
    unfold Z6k at *
    split at p1
    . rename_i hs; rw [if_pos hs]; rfl
    . cases p1
   have j0 : (chgs t.first t.chg).isSome = true := by
    unfold Z6k at p1
    split at p1
    . exact p1
    . cases p1
   rw [j1] at e1
   have i1 : ((8 : Int) < (t.chg.length : Int)) = ¬ (t.chg.length <= 8) := by rw [eq_iff_iff]; omega
   have i2 : ((8 : Int) < (t.rows.length : Int)) = ¬ (t.rows.length <= 8) := by rw [eq_iff_iff]; omega
   rcases pf (t.chg.length <= 8) with h1 | h1
   . rcases pf (t.rows.length <= 8) with h2 | h2
     . cases p2 : inB t.next 1 60 with
       | false =>
         rw [p2] at e2
         simp only [Wa, go_sem, e1, e2, dN, Za, i1, i2, h1, h2]
       | true =>
         rw [p2] at e2
         have hn : 1 <= t.next /\ t.next <= 60 := by unfold inB at p2; simpa using p2
         obtain ⟨out, lo, lp⟩ := Zrs hd t ht hn j0
         rw [show ((0 : Nat) : Int) = 0 from rfl] at lo
         cases hq : Zv (Zc8 t) 0 0 t.rows with
         | inl m =>
           rw [hq] at lp
           obtain ⟨U', rfl, l1, l2⟩ := lp
           have hB : Zde t = true := by unfold Zde; rw [hq]
           have H : OnceOk t := ⟨ht, j0, Zdg hq j0 (fun r h => (ht.vals r h).1)⟩
           have e3 := Yaf (show 1 <= D by omega) t H
           simp only [Wa, go_sem, e1, e2, dN, Za, i1, i2, h1, h2, lo, l1, l2, e3, hB]
         | inr u =>
           rw [hq] at lp
           obtain ⟨U', rfl, l2⟩ := lp
           have hB : Zde t = false := by unfold Zde; rw [hq]
           simp only [Wa, go_sem, e1, e2, dN, Za, i1, i2, h1, h2, lo, l2, hB]
     . simp only [Wa, go_sem, e1, e2, dN, Za, i1, i2, h1, h2]
   . simp only [Wa, go_sem, e1, e2, dN, Za, i1, i2, h1]
end Go.Vm.T
namespace Go.Vm.T
open Go.Proofs
def idG (id : Int) : Nat -> Unit -> RowV -> Unit ⊕ Nat := fun i _ x => bif decide (x.id = id) then .inr i else .inl ()
def Zpj (id : Int) (rs : List RowV) : Option Nat := match Zv (idG id) 0 () rs with
 | .inl _ => none
 | .inr i => some i
def idI (id : Int) (rs : List RowV) : Int := match Zpj id rs with
 | none => -1
 | some i => i
theorem Y8v (id : Int) : ∀ (cs : List RowV) (i k : Nat), Zv (idG id) i () cs = .inr k -> i <= k /\ k < i + cs.length
 | [], i, k, h => nomatch h
 | x :: cs, i, k, h => by
   unfold Zv idG at h
   by_cases hx : x.id = id
   . simp [hx] at h
     subst h
     simp
   . simp only [hx, decide_false, cond_false] at h
     have := Y8v id cs (i + 1) k h
     simp only [eF]
     omega
theorem Zpe {id : Int} {cs : List RowV} {k : Nat} (h : Zpj id cs = some k) : k < cs.length := by
 unfold Zpj at h
 cases hr : Zv (idG id) 0 () cs with
 | inl _ => rw [hr] at h; cases h
 | inr i =>
   rw [hr] at h
   cases h
   have := Y8v id cs 0 k hr
   omega
variable [Pr2]
theorem Zuq {D : Nat} (hD : 1 <= D) (r : RowV) (id : Int) : den pr D Zp5 [.agg r.c, .pl [.n id] 0] = some [.q (decide (r.id = id))] := by
 obtain ⟨D, rfl, hd⟩ := Zc hD
 rw [Ybr]
 simp only [Y4y, go_sem]
theorem Zoq {D : Nat} (hD : 1 <= D) (id : Int) (cs : List RowV) (hl : cs.length <= big) :
 Vg (Zd (Zj (aH D) Zns) [0, 1, 7, 8] rounds ⟨upd (upd (upd (upd (fun _ => .bad) 0 (.lit Z4 (cs.map RowV.c))) 1 (.fn Zp5 [.pl [.n id] 0])) 7 (.n cs.length)) 8 (.n (0 : Nat)), fun _ => none, 0, 0⟩) Unit Nat (Zv (idG id) 0 () cs)
  (fun _ o => ∃ U', o = .exit 0 U') (fun i o => ∃ U', o = .ret U' /\ U'.s 4 = .n i) := by
 refine Zt cs (fun i (_ : Unit) => ⟨upd (upd (upd (upd (fun _ => .bad) 0 (.lit Z4 (cs.map RowV.c))) 1 (.fn Zp5 [.pl [.n id] 0])) 7 (.n cs.length)) 8 (.n i), fun _ => none, 0, 0⟩) _ (fun _ _ => True) _ _ () trivial hl (fun i _ x K hc hlt hi => ?_) (fun _ K _ => ?_)
 . have hr := Zq (f := RowV.c) hc
   have hw := Zk (n := i) (by unfold big at hl; omega)
   have hp := Zuq hD x id
   simp only [Zd, Zv2, Zk1, go_sem, hr, hlt, hw, hp, idG]
   generalize decide (x.id = id) = q
   cases q with
   | true => simp only [go_sem]; exact ⟨_, rfl, _, rfl, rfl⟩
   | false => simp only [go_sem]
 . have hi : ¬ cs.length < cs.length := by omega
   simp only [Zd, Zv2, Zk1, go_sem, hi]
   exact ⟨_, rfl, _, rfl⟩
theorem Zsk {D : Nat} (hD : 2 <= D) (id : Int) (cs : List RowV) (hl : cs.length <= big) : den pr D Zz2 [.lit Z4 (cs.map RowV.c), .fn Zp5 [.pl [.n id] 0]] = some [.n (idI id cs)] := by
 obtain ⟨D, rfl, hd⟩ := Zc hD
 rw [Ydg]
 obtain ⟨out, lo, lp⟩ := Zoq hd id cs hl
 rw [show ((0 : Nat) : Int) = 0 from rfl] at lo
 unfold idI Zpj
 cases hr : Zv (idG id) 0 () cs with
 | inl _ =>
   rw [hr] at lp
   obtain ⟨U', rfl⟩ := lp
   simp only [Y0x, go_sem, dN, lo]
 | inr i =>
   rw [hr] at lp
   obtain ⟨U', rfl, l2⟩ := lp
   simp only [Y0x, go_sem, dN, lo, l2]
theorem Y3u {D : Nat} (hD : 3 <= D) (t : Tab) (id : Int) (hl : t.rows.length <= big) : den pr D Y1k [.agg t.c, .n id] = some [.n (idI id t.rows)] := by
 obtain ⟨D, rfl, hd⟩ := Zc hD
 rw [Yco]
 have h := Zsk hd id t.rows hl
 simp only [Y5c, go_sem, h]
end Go.Vm.T
namespace Go.Vm.T
open Go.Proofs
abbrev Z2d (vs : List Val) : List A := [.lit Z2 (vs.map Val.c)]
variable [Pr2]
end Go.Vm.T
namespace Go.Vm.T
open Go.Proofs
variable [Pr2]
end Go.Vm.T
namespace Go.Vm.T
open Go.Proofs
def Zdx (c : Chg) : ColV := if c.k = 4 then { zC with k := c.col.k } else zC
theorem Y2s (a b : ColV) : (decide (a.nm = b.nm) && (decide (a.k = b.k) && (decide (a.need = b.need) && (decide (a.once = b.once) && (decide (a.df.k = b.df.k) && (decide (a.df.n = b.df.n) && decide (a.df.t = b.df.t))))))) = decide (a = b) := by
 obtain ⟨cn, ck, need, once, dk, dn, dt⟩ := a
 obtain ⟨j5, j4, j1, j0, j3, j6, j2⟩ := b
 rw [Bool.eq_iff_iff]
 simp only [ColV.mk.injEq, Val.mk.injEq, dQ, eJ]
variable [Pr2]
theorem Y0a {D : Nat} (hD : 1 <= D) (c : Chg) : den pr D Z0k [.agg c.c] = some [.agg (Zdx c).c] := by
 obtain ⟨D, rfl, hd⟩ := Zc hD
 rw [Zjw]
 unfold Zdx
 rcases pf (c.k = 4) with h | h
 . simp only [Z4k, go_sem, h, if_true, zC, zV]
 . simp only [Z4k, go_sem, h, if_false, zC, zV]
theorem Y62 {D : Nat} (hD : 1 <= D) (s : List ColV) (i : Nat) (hi : i < s.length) (hl : s.length <= big) : den pr D Z3f [.lit Z0 (s.map ColV.c), .n (i : Int)] = some [.olit Z0 ((Z3z i s).map ColV.c)] := by
 obtain ⟨D, rfl, hd⟩ := Zc hD
 rw [Zlk]
 have hw : IntKind.i64.wrap ((i : Int) + 1) = (i : Int) + 1 := Zk (n := i) (by unfold big at hl; omega)
 have i0 := eP i
 have it := eQ i
 have j0 : (0 : Int) <= (i : Int) + 1 := by omega
 have jt : ((i : Int) + 1).toNat = i + 1 := by omega
 have h1 : i <= s.length := by omega
 have h2 : i + 1 <= s.length := by omega
 have h3 : ((s.map ColV.c).drop (i + 1)).take (s.length - (i + 1)) = (s.map ColV.c).drop (i + 1) := dP (by simp)
 have h4 : i + (s.length - (i + 1)) <= big := by omega
 have h5 : ((s.map ColV.c).take i).take i = (s.map ColV.c).take i := by rw [List.take_take, Nat.min_self]
 have h6 : min i s.length = i := by omega
 have h7 : i <= big := by omega
 have em : (Z3z i s).map ColV.c = (s.map ColV.c).take i ++ (s.map ColV.c).drop (i + 1) := by unfold Z3z; rw [eO, gQ, List.map_drop]
 have h8 : List.take s.length (List.map ColV.c s) = List.map ColV.c s := dP (by simp)
 have h9 : (List.take i (List.map ColV.c s) ++ List.drop (i + 1) (List.map ColV.c s)).length = i + (s.length - (i + 1)) := by simp; omega
 have j1 : ¬ (i + (s.length - (i + 1)) < i + (s.length - (i + 1))) := eL _
 simp only [Z8m, go_sem, hw, i0, it, j0, jt, h1, h2, h4, h5, h6, h7, h8, h9, j1, em, dN, gS, gB, fJ, and_self, if_true, dG, dO, dF, dH, fL, dI]
def do2 (s : List ColV) (c : Chg) : List ColV :=
 if c.k = 1 then (if c.nm = eT /\ c.nw = eT /\ (c.col.need = false \/ ¬ c.col.df.k = 0) then s ++ [c.col] else [])
 else match Z6s c.nm s with
  | none => []
  | some i => match s[i]? with
    | none => []
    | some x => if c.col = Zdx c then (if c.k = 2 then (if c.nw = eT then Z3z i s else []) else if c.k = 3 then s.set i { x with nm := c.nw } else if c.k = 4 then (if c.nw = eT /\ ¬ c.col.k = x.k then s.set i { x with k := c.col.k, df := Z3m x.df c.col.k } else []) else []) else []
theorem Y3s {s : List ColV} {c : Chg} : Zby s (do2 s c) = Z72 s c := by
 have j1 : Zl [] = false := by decide
 have j0 : Zby s [] = (s, false) := by unfold Zby; rw [j1]; rfl
 unfold do2 Z72 Z37 Y73 Zdx
 by_cases h1 : c.k = 1
 . by_cases a : c.nm = eT <;> by_cases b : c.nw = eT <;> by_cases d : c.col.need = true <;> by_cases e : c.col.df.k = 0 <;> simp [h1, a, b, d, e, j0]
 . simp only [h1, if_false]
   cases hk : Z6s c.nm s with
   | none =>
     simp only [j0, ite_self]
   | some i =>
     have hi := Z0p hk
     have hx : s[i]? = some s[i] := dS hi
     simp only [hx]
     generalize s[i] = x
     by_cases h2 : c.k = 2
     . by_cases b : c.nw = eT <;> by_cases d : c.col = zC <;> simp [h2, b, d, j0]
     . by_cases h3 : c.k = 3
       . by_cases d : c.col = zC <;> simp [h3, d, j0]
       . by_cases h4 : c.k = 4
         . have n2 : ¬ (4 : Int) = 2 := by decide
           have n3 : ¬ (4 : Int) = 3 := by decide
           simp only [h4, n2, n3, if_false, if_true]
           by_cases d : c.col = { zC with k := c.col.k }
           . have d' : decide (c.col = { zC with k := c.col.k }) = true := decide_eq_true d
             simp only [if_pos d, d', gY]
             by_cases b : c.nw = eT <;> by_cases e : c.col.k = x.k <;> simp [b, e, j0]
           . have d' : decide (c.col = { zC with k := c.col.k }) = false := decide_eq_false d
             simp only [if_neg d, d', hU, j0, if_true]
         . simp [h2, h3, h4, j0]
end Go.Vm.T
namespace Go.Vm.T
open Go.Proofs
variable [Pr2]
structure L2 (D : Nat) (s : List ColV) (c : Chg) : Prop where
 e1 : den pr D X9 [.lit Z0 (s.map ColV.c), .s c.nm] = some [.n (nmI c.nm s)]
 e2 : den pr D Z0k [.agg c.c] = some [.agg (Zdx c).c]
 hb : s.length <= big
 hl : s.length + 1 <= big
 ht : (s.map ColV.c).take s.length = s.map ColV.c
 hta : ∀ r : List A, List.take (s.length + 1) (s.map ColV.c ++ [r]) = s.map ColV.c ++ [r]
theorem Y65 {D : Nat} (s : List ColV) (c : Chg) (L : L2 D s c) (h1 : (c.k = 1) = True) (h2 : (c.nm = eT) = True) (h3 : (c.nw = eT) = True) (h4 : c.col.need = false) : den pr (D + 1) Yc [.lit Z0 (s.map ColV.c), .agg c.c] = some [.olit Z0 ((s ++ [c.col]).map ColV.c)] := by
 rw [Xd]
 obtain ⟨e1, e2, hb, hl, ht, hta⟩ := L
 have em : (s ++ [c.col]).map ColV.c = s.map ColV.c ++ [c.col.c] := by simp
 rw [em]
 have j0 := e2
 simp only [Chg.c, h4] at j0
 simp only [ColV.c, h4]
 simp only [Yw, go_sem, e1, j0, hb, hl, ht, hta, h1, h2, h3, h4, dN, eE, dF, dH, dO, dG, and_self, if_true]
theorem Y6n {D : Nat} (s : List ColV) (c : Chg) (L : L2 D s c) (h1 : (c.k = 1) = True) (h2 : (c.nm = eT) = True) (h3 : (c.nw = eT) = True) (h4 : c.col.need = true) (h5 : (c.col.df.k = 0) = False) : den pr (D + 1) Yc [.lit Z0 (s.map ColV.c), .agg c.c] = some [.olit Z0 ((s ++ [c.col]).map ColV.c)] := by
 rw [Xd]
 obtain ⟨e1, e2, hb, hl, ht, hta⟩ := L
 have em : (s ++ [c.col]).map ColV.c = s.map ColV.c ++ [c.col.c] := by simp
 rw [em]
 have j0 := e2
 simp only [Chg.c, h4] at j0
 simp only [ColV.c, h4]
 simp only [Yw, go_sem, e1, j0, hb, hl, ht, hta, h1, h2, h3, h4, h5, dN, eE, dF, dH, dO, dG, and_self, if_true]
theorem Y6y {D : Nat} (s : List ColV) (c : Chg) (L : L2 D s c) (h1 : (c.k = 1) = True) (h2 : (c.nm = eT) = True) (h3 : (c.nw = eT) = True) (h4 : c.col.need = true) (h5 : (c.col.df.k = 0) = True) : den pr (D + 1) Yc [.lit Z0 (s.map ColV.c), .agg c.c] = some [.olit Z0 ([])] := by
 rw [Xd]
 obtain ⟨e1, e2, hb, hl, ht, hta⟩ := L
 have j0 := e2
 simp only [Chg.c, h4] at j0
 simp only [Yw, go_sem, e1, j0, hb, hl, ht, h1, h2, h3, h4, h5, dN, dF, dH, dO, dG, and_self, if_true]
theorem Y4g {D : Nat} (s : List ColV) (c : Chg) (L : L2 D s c) (h1 : (c.k = 1) = True) (h2 : (c.nm = eT) = True) (h3 : (c.nw = eT) = False) : den pr (D + 1) Yc [.lit Z0 (s.map ColV.c), .agg c.c] = some [.olit Z0 ([])] := by
 rw [Xd]
 obtain ⟨e1, e2, hb, hl, ht, hta⟩ := L
 simp only [Yw, go_sem, e1, e2, hb, hl, ht, h1, h2, h3, dN, dF, dH, dO, dG, and_self, if_true]
theorem Y43 {D : Nat} (s : List ColV) (c : Chg) (L : L2 D s c) (h1 : (c.k = 1) = True) (h2 : (c.nm = eT) = False) : den pr (D + 1) Yc [.lit Z0 (s.map ColV.c), .agg c.c] = some [.olit Z0 ([])] := by
 rw [Xd]
 obtain ⟨e1, e2, hb, hl, ht, hta⟩ := L
 simp only [Yw, go_sem, e1, e2, hb, hl, ht, h1, h2, dN, dF, dH, dO, dG, and_self, if_true]
theorem Y9d {D : Nat} (s : List ColV) (c : Chg) (L : L2 D s c) (h1 : (c.k = 1) = True) : den pr (D + 1) Yc [.lit Z0 (s.map ColV.c), .agg c.c] = some [.olit Z0 ((do2 s c).map ColV.c)] := by
 unfold do2
 simp only [h1, if_true]
 rcases pf (c.nm = eT) with h2 | h2
 . rcases pf (c.nw = eT) with h3 | h3
   . cases h4 : c.col.need with
     | false =>
       rw [Y65 s c L h1 h2 h3 h4]
       simp only [h2, h3, true_and, true_or, if_true]
     | true =>
       rcases pf (c.col.df.k = 0) with h5 | h5
       . rw [Y6y s c L h1 h2 h3 h4 h5]
         simp only [h5, not_true, or_self, and_false, if_false, fS, dJ]
       . rw [Y6n s c L h1 h2 h3 h4 h5]
         simp only [h2, h3, h5, true_and, not_false_iff, or_true, if_true]
   . rw [Y4g s c L h1 h2 h3]
     simp only [h3, false_and, and_false, if_false, dJ]
 . rw [Y43 s c L h1 h2]
   simp only [h2, false_and, if_false, dJ]
theorem Y8i {D : Nat} (s : List ColV) (c : Chg) (L : L2 D s c) (h1 : (c.k = 1) = False) (ha : Z6s c.nm s = none) : den pr (D + 1) Yc [.lit Z0 (s.map ColV.c), .agg c.c] = some [.olit Z0 ((do2 s c).map ColV.c)] := by
 rw [Xd]
 obtain ⟨e1, e2, hb, hl, ht, hta⟩ := L
 unfold do2
 unfold nmI at e1
 rw [ha] at e1
 have hm : (-1 : Int) < 0 := by decide
 simp only [Yw, go_sem, e1, e2, hb, hl, ht, h1, ha, hm, dN, dF, dH, dO, dG, and_self, if_true, if_false, dJ]
theorem Y9o {D : Nat} (s : List ColV) (c : Chg) (L : L2 D s c) (h1 : (c.k = 1) = False) (i : Nat) (ha : Z6s c.nm s = some i) (x : ColV) (hx : s[i]? = some x) (hr : ¬ c.col = Zdx c) : den pr (D + 1) Yc [.lit Z0 (s.map ColV.c), .agg c.c] = some [.olit Z0 ((do2 s c).map ColV.c)] := by
 rw [Xd]
 obtain ⟨e1, e2, hb, hl, ht, hta⟩ := L
 unfold do2
 unfold nmI at e1
 rw [ha] at e1
 simp only at e1
 have hm : ¬ ((i : Int) < 0) := by omega
 have hq := Y2s c.col (Zdx c)
 rw [decide_eq_false hr] at hq
 simp only [h1, if_false, ha, hx, hr]
 generalize Zdx c = R at *
 simp only [Yw, go_sem, e1, e2, hb, hl, ht, h1, hm, hq, dN, dF, dH, dO, dG, and_self, if_true, if_false, dJ]
structure L3 (D : Nat) (s : List ColV) (c : Chg) (i : Nat) (x R : ColV) : Prop where
 e1 : den pr D X9 [.lit Z0 (s.map ColV.c), .s c.nm] = some [.n (i : Int)]
 e2 : den pr D Z0k [.agg c.c] = some [.agg R.c]
 hq : (decide (c.col.nm = R.nm) && (decide (c.col.k = R.k) && (decide (c.col.need = R.need) && (decide (c.col.once = R.once) && (decide (c.col.df.k = R.df.k) && (decide (c.col.df.n = R.df.n) && decide (c.col.df.t = R.df.t))))))) = true
 hb : s.length <= big
 ht : (s.map ColV.c).take s.length = s.map ColV.c
 hm : ¬ ((i : Int) < 0)
 hi : i < s.length
 i0 : (0 : Int) <= (i : Int)
 it : ((i : Int)).toNat = i
 hr : (s.map ColV.c)[i]? = some x.c
 hset : ∀ r, ((s.map ColV.c).set i r)[i]? = some r
theorem Y7l {D : Nat} (s : List ColV) (c : Chg) (i : Nat) (x R : ColV) (L : L3 D s c i x R) (h1 : (c.k = 1) = False) (h2 : (c.k = 2) = True) (h3 : (c.nw = eT) = True) (e3 : den pr D Z3f [.lit Z0 (s.map ColV.c), .n (i : Int)] = some [.olit Z0 ((Z3z i s).map ColV.c)]) :
 den pr (D + 1) Yc [.lit Z0 (s.map ColV.c), .agg c.c] = some [.olit Z0 ((Z3z i s).map ColV.c)] := by
 rw [Xd]
 obtain ⟨e1, e2, hq, hb, ht, hm, hi, i0, it, hr, hset⟩ := L
 simp only [Yw, go_sem, e1, e2, e3, hq, hb, ht, h1, h2, h3, hm, dN, dF, dH, dO, dG, and_self, if_true, if_false, Za]
theorem Y6l {D : Nat} (s : List ColV) (c : Chg) (i : Nat) (x R : ColV) (L : L3 D s c i x R) (h1 : (c.k = 1) = False) (h2 : (c.k = 2) = True) (h2' : (c.k = 3) = False) (h2'' : (c.k = 4) = False) (h3 : (c.nw = eT) = False) :
 den pr (D + 1) Yc [.lit Z0 (s.map ColV.c), .agg c.c] = some [.olit Z0 []] := by
 rw [Xd]
 obtain ⟨e1, e2, hq, hb, ht, hm, hi, i0, it, hr, hset⟩ := L
 simp only [Yw, go_sem, e1, e2, hq, hb, ht, h1, h2, h2', h2'', h3, hm, hi, i0, it, hr, dN, dF, dH, dO, dG, and_self, if_true, if_false]
theorem Y97 {D : Nat} (s : List ColV) (c : Chg) (i : Nat) (x R : ColV) (L : L3 D s c i x R) (h1 : (c.k = 1) = False) (h2 : (c.k = 2) = False) (h3 : (c.k = 3) = False) (h4 : (c.k = 4) = False) :
 den pr (D + 1) Yc [.lit Z0 (s.map ColV.c), .agg c.c] = some [.olit Z0 []] := by
 rw [Xd]
 obtain ⟨e1, e2, hq, hb, ht, hm, hi, i0, it, hr, hset⟩ := L
 simp only [Yw, go_sem, e1, e2, hq, hb, ht, h1, h2, h3, h4, hm, hi, i0, it, hr, dN, dF, dH, dO, dG, and_self, if_true, if_false]
theorem Y88 {D : Nat} (s : List ColV) (c : Chg) (i : Nat) (x R : ColV) (L : L3 D s c i x R) (h1 : (c.k = 1) = False) (h2 : (c.k = 2) = False) (h3 : (c.k = 3) = True) :
 den pr (D + 1) Yc [.lit Z0 (s.map ColV.c), .agg c.c] = some [.olit Z0 ((s.set i { x with nm := c.nw }).map ColV.c)] := by
 rw [Xd]
 obtain ⟨e1, e2, hq, hb, ht, hm, hi, i0, it, hr, hset⟩ := L
 have em : (s.set i { x with nm := c.nw }).map ColV.c = (s.map ColV.c).set i (ColV.c { x with nm := c.nw }) := gN
 rw [em]
 simp only [Yw, go_sem, e1, e2, hq, hb, ht, h1, h2, h3, hm, hi, i0, it, hr, Wl, dN, dK, dF, dH, dO, dG, and_self, if_true, if_false]
theorem Y66 {D : Nat} (s : List ColV) (c : Chg) (i : Nat) (x R : ColV) (L : L3 D s c i x R) (h1 : (c.k = 1) = False) (h2 : (c.k = 2) = False) (h3 : (c.k = 3) = False) (h4 : (c.k = 4) = True) (h5 : (c.nw = eT) = False) :
 den pr (D + 1) Yc [.lit Z0 (s.map ColV.c), .agg c.c] = some [.olit Z0 []] := by
 rw [Xd]
 obtain ⟨e1, e2, hq, hb, ht, hm, hi, i0, it, hr, hset⟩ := L
 simp only [Yw, go_sem, e1, e2, hq, hb, ht, h1, h2, h3, h4, h5, hm, hi, i0, it, hr, dN, dF, dH, dO, dG, and_self, if_true, if_false]
theorem Y4l {D : Nat} (s : List ColV) (c : Chg) (i : Nat) (x R : ColV) (L : L3 D s c i x R) (h1 : (c.k = 1) = False) (h2 : (c.k = 2) = False) (h3 : (c.k = 3) = False) (h4 : (c.k = 4) = True) (h5 : (c.nw = eT) = True) (h6 : (c.col.k = x.k) = True) :
 den pr (D + 1) Yc [.lit Z0 (s.map ColV.c), .agg c.c] = some [.olit Z0 []] := by
 rw [Xd]
 obtain ⟨e1, e2, hq, hb, ht, hm, hi, i0, it, hr, hset⟩ := L
 simp only [Yw, go_sem, e1, e2, hq, hb, ht, h1, h2, h3, h4, h5, h6, hm, hi, i0, it, hr, dN, dF, dH, dO, dG, and_self, if_true, if_false]
theorem Y8s {D : Nat} (s : List ColV) (c : Chg) (i : Nat) (x R : ColV) (L : L3 D s c i x R) (h1 : (c.k = 1) = False) (h2 : (c.k = 2) = False) (h3 : (c.k = 3) = False) (h4 : (c.k = 4) = True) (h5 : (c.nw = eT) = True) (h6 : (c.col.k = x.k) = False) (ev : den pr D Z1i [.agg x.df.c, .n c.col.k] = some [.agg (Z3m x.df c.col.k).c]) :
 den pr (D + 1) Yc [.lit Z0 (s.map ColV.c), .agg c.c] = some [.olit Z0 ((s.set i { x with k := c.col.k, df := Z3m x.df c.col.k }).map ColV.c)] := by
 rw [Xd]
 obtain ⟨e1, e2, hq, hb, ht, hm, hi, i0, it, hr, hset⟩ := L
 have em : (s.set i { x with k := c.col.k, df := Z3m x.df c.col.k }).map ColV.c = (s.map ColV.c).set i (ColV.c { x with k := c.col.k, df := Z3m x.df c.col.k }) := gN
 rw [em]
 simp only [Yw, go_sem, e1, e2, ev, hq, hb, ht, h1, h2, h3, h4, h5, h6, hm, hi, i0, it, hr, hset, List.set_set, Wl, dN, dK, dF, dH, dO, dG, and_self, if_true, if_false]
theorem Y7w {D : Nat} (hD : 5 <= D) (s : List ColV) (c : Chg) (hs : SmallC s) (hl : s.length + 1 <= big) (hc : SmallG c) : den pr D Yc [.lit Z0 (s.map ColV.c), .agg c.c] = some [.olit Z0 ((do2 s c).map ColV.c)] := by
 obtain ⟨D, rfl, hd⟩ := Zc hD
 have e1 := Ze2 (show 1 <= D by omega) c.nm s hs.len
 have e2 := Y0a (show 1 <= D by omega) c
 have L : L2 D s c := ⟨e1, e2, hs.len, hl, dP (by simp), fun r => dP (by simp)⟩
 rcases pf (c.k = 1) with h1 | h1
 . exact Y9d s c L h1
 . cases ha : Z6s c.nm s with
   | none => exact Y8i s c L h1 ha
   | some i =>
     have hi := Z0p ha
     have hx : s[i]? = some s[i] := dS hi
     generalize s[i] = x at hx
     have j2 := hs.txt x (dY hx)
     by_cases hr : c.col = Zdx c
     . have hq := Y2s c.col (Zdx c)
       rw [decide_eq_true hr] at hq
       unfold nmI at e1
       rw [ha] at e1
       have L' : L3 D s c i x (Zdx c) := ⟨e1, e2, hq, hs.len, dP (by simp), by omega, hi, by omega, by omega, Zq (f := ColV.c) hx, fun r => gI (by simpa using hi)⟩
       have j0 : ¬ c.k = 1 := of_eq_false h1
       have j1 : do2 s c = if c.k = 2 then (if c.nw = eT then Z3z i s else []) else if c.k = 3 then s.set i { x with nm := c.nw } else if c.k = 4 then (if c.nw = eT /\ ¬ c.col.k = x.k then s.set i { x with k := c.col.k, df := Z3m x.df c.col.k } else []) else [] := by
        unfold do2
        rw [if_neg j0]
        simp only [ha, hx]
        rw [if_pos hr]
       rw [j1]
       rcases pf (c.k = 2) with h2 | h2
       . have hk := of_eq_true h2
         rw [if_pos hk]
         rcases pf (c.nw = eT) with h3 | h3
         . rw [if_pos (of_eq_true h3)]
           exact Y7l s c i x _ L' h1 h2 h3 (Y62 (by omega) s i hi hs.len)
         . rw [if_neg (of_eq_false h3)]
           exact Y6l s c i x _ L' h1 h2 (eq_false (by omega)) (eq_false (by omega)) h3
       . rw [if_neg (of_eq_false h2)]
         rcases pf (c.k = 3) with h3 | h3
         . rw [if_pos (of_eq_true h3)]
           exact Y88 s c i x _ L' h1 h2 h3
         . rw [if_neg (of_eq_false h3)]
           rcases pf (c.k = 4) with h4 | h4
           . rw [if_pos (of_eq_true h4)]
             rcases pf (c.nw = eT) with h5 | h5
             . rcases pf (c.col.k = x.k) with h6 | h6
               . rw [if_neg (fun q => q.2 (of_eq_true h6))]
                 exact Y4l s c i x _ L' h1 h2 h3 h4 h5 h6
               . rw [if_pos ⟨of_eq_true h5, of_eq_false h6⟩]
                 exact Y8s s c i x _ L' h1 h2 h3 h4 h5 h6 (Zd4 (by omega) x.df c.col.k j2.2)
             . rw [if_neg (fun q => of_eq_false h5 q.1)]
               exact Y66 s c i x _ L' h1 h2 h3 h4 h5
           . rw [if_neg (of_eq_false h4)]
             exact Y97 s c i x _ L' h1 h2 h3 h4
     . exact Y9o s c L h1 i ha x hx hr
theorem Ztz {s : List ColV} {c : Chg} (hs : SmallC s) (hl : s.length + 1 <= big) (hc : SmallG c) : SmallC (do2 s c) := by
 have h0 : SmallC [] := ⟨by unfold big; simp, fun c h => by simp at h⟩
 unfold do2
 split
 . split
   . refine ⟨by simpa using hl, fun x hx => ?_⟩
     rcases dW.1 hx with h | h
     . exact hs.txt x h
     . rw [dX.1 h]; exact ⟨hc.cn, hc.dt⟩
   . exact h0
 . split
   . exact h0
   . rename_i i hi
     have j1 := Z0p hi
     split
     . exact h0
     . rename_i x hx
       have j0 := hs.txt x (dY hx)
       split
       . split
         . split
           . refine ⟨by rw [Z1o j1]; have := hs.len; omega, fun y hy => hs.txt y ?_⟩
             unfold Z3z at hy
             rcases dW.1 hy with h | h
             . exact fC h
             . exact eS h
           . exact h0
         . split
           . refine ⟨by rw [dK]; exact hs.len, fun y hy => ?_⟩
             rcases fB hy with h | h
             . exact hs.txt y h
             . rw [h]; exact ⟨hc.nw, j0.2⟩
           . split
             . split
               . refine ⟨by rw [dK]; exact hs.len, fun y hy => ?_⟩
                 rcases fB hy with h | h
                 . exact hs.txt y h
                 . rw [h]; exact ⟨j0.1, Zcq j0.2⟩
               . exact h0
             . exact h0
       . exact h0
theorem Z65 {D : Nat} (hD : 6 <= D) (s : List ColV) (c : Chg) (hs : Zl s = true) (hc : SmallG c) : den pr D Z03 [.lit Z0 (s.map ColV.c), .agg c.c] = some [.olit Z0 ((Z72 s c).1.map ColV.c), .q (Z72 s c).2] := by
 obtain ⟨D, rfl, hd⟩ := Zc hD
 rw [Zfp]
 have j0 := Yq hs
 have e1 := Z0w (show 4 <= D by omega) s j0.1
 rw [hs] at e1
 have e2 := Y7w (show 5 <= D by omega) s c j0.1 j0.2 hc
 have j2 := Ztz (c := c) j0.1 j0.2 hc
 have e3 := Z0w (show 4 <= D by omega) (do2 s c) j2
 have j1 := j0.1.len
 have ht := Zb ColV.c s
 rw [<- Y3s]
 generalize do2 s c = o at *
 have ho := Zb ColV.c o
 unfold Zby
 cases h : Zl o with
 | false =>
   rw [h] at e3
   simp only [Z2t, go_sem, e1, e2, e3, ho, ht, j1, Za, dN, dF, dH, dO, dG, and_self, if_true, if_false, eH]
 | true =>
   rw [h] at e3
   simp only [Z2t, go_sem, e1, e2, e3, ho, j1, Za, dN, dF, dH, dO, dG, and_self, if_true, if_false, eH]
abbrev saS (cs : List Chg) (i : Nat) (s : List ColV) : St := ⟨upd (upd (upd (fun _ => .bad) 1 (.lit Z3 (cs.map Chg.c))) 6 (cV Z0 0 s.length false)) 7 (.n i), upd (fun _ => none) 0 (cU Z0 (s.map ColV.c)), 1, 0⟩
theorem Zlw {D : Nat} (hD : 6 <= D) (s : List ColV) (cs : List Chg) (hs : Zl s = true) (hc : ∀ c ∈ cs, SmallG c) (hcl : cs.length <= big) :
 Vg (Zd (Zj (aH D) Znn) [1, 6, 7] rounds (saS cs 0 s)) (List ColV) Unit (Zv Zpl 0 s cs)
  (fun s' o => ∃ U', o = .exit 0 U' /\ U'.s 6 = cV Z0 0 s'.length false /\ U'.h 0 = cU Z0 (s'.map ColV.c)) (fun _ o => ∃ U' b, o = .ret U' /\ U'.s 4 = cV Z0 b 0 true /\ U'.h b = cU Z0 [] /\ U'.s 5 = .q false) := by
 refine Zt cs (saS cs) Zpl (fun _ s => Zl s = true) _ _ s hs hcl (fun i s c K j2 hlt hI => ?_) (fun s K hI => ?_)
 . have hr := Zq (f := Chg.c) j2
   have hw := Zk (n := i) (by unfold big at hcl; omega)
   have e1 := Z65 hD s c hI (hc c (dY j2))
   have j0 := Zb ColV.c s
   unfold Zpl
   have j1 := Zcm (s := s) (c := c)
   generalize Z72 s c = r at *
   obtain ⟨s', q⟩ := r
   simp only at e1 j1 ⊢
   cases q with
   | true =>
     simp only [saS, Zd, Zow, Ze7, go_sem, dN, hr, hlt, hw, e1, j0, Za, dO]
     exact j1 rfl
   | false =>
     simp only [saS, Zd, Zow, Ze7, go_sem, dN, hr, hlt, e1, j0, Za, dO]
     exact ⟨_, rfl, _, _, rfl, rfl, rfl, rfl⟩
 . have hi : ¬ cs.length < cs.length := by omega
   simp only [saS, Zd, Zow, Ze7, go_sem, dN, hi]
   exact ⟨_, rfl, _, rfl, rfl, rfl⟩
theorem Z58 {D : Nat} (hD : 7 <= D) (s : List ColV) (cs : List Chg) (hs : SmallC s) (hc : ∀ c ∈ cs, SmallG c) (hcl : cs.length <= big) :
 den pr D Zse [.lit Z0 (s.map ColV.c), .lit Z3 (cs.map Chg.c)] = some [.olit Z0 (((Z6k s cs).getD []).map ColV.c), .q (Z6k s cs).isSome] := by
 obtain ⟨D, rfl, hd⟩ := Zc hD
 rw [Ydd]
 have e1 := Z0w (show 4 <= D by omega) s hs
 have ht := Zb ColV.c s
 have j0 := hs.len
 unfold Z6k
 cases h : Zl s with
 | false =>
   rw [h] at e1
   simp only [Zxm, go_sem, e1, eH, if_false, Option.getD_none, fQ, dJ]
 | true =>
   rw [h] at e1
   obtain ⟨out, lo, lp⟩ := Zlw (show 6 <= D by omega) s cs h hc hcl
   simp only [saS] at lo
   rw [show ((0 : Nat) : Int) = 0 from rfl] at lo
   unfold chgs
   cases hr : Zv Zpl 0 s cs with
   | inl s' =>
     rw [hr] at lp
     obtain ⟨U', rfl, l1, l2⟩ := lp
     simp only [Zxm, go_sem, e1, lo, l1, l2, j0, dN, dG, dF, dH, and_self, if_true, dD, fI]
   | inr u =>
     rw [hr] at lp
     obtain ⟨U', b, rfl, l1, l2, l3⟩ := lp
     simp only [Zxm, go_sem, e1, lo, l1, l2, l3, j0, dN, dG, dF, dH, and_self, if_true, Option.getD_none, fQ, dJ]
theorem Y3h {D : Nat} (hD : 5 <= D) (s : List ColV) (c : Chg) (row : List Val) (hs : SmallC s) (hc : SmallG c) (hr : V9 row) (hl : row.length + 1 <= big) (hk : c.k = 1 \/ ((c.k = 2 \/ c.k = 3 \/ c.k = 4) /\ ∃ i, Z6s c.nm s = some i /\ i < row.length)) :
 den pr D Z5p [.lit Z0 (s.map ColV.c), .agg c.c, .lit Z2 (row.map Val.c)] = some [.olit Z2 ((Zvu s c row).map Val.c)] := by
 obtain ⟨D, rfl, hd⟩ := Zc hD
 rw [Zlc]
 have e1 := Ze2 (show 1 <= D by omega) c.nm s hs.len
 have j4 := Zb Val.c row
 have j3 : row.length <= big := by omega
 unfold Zvu
 rcases hk with hk | ⟨hk, i, ha, hi⟩
 . have j1 : (c.k = 1) = True := by rw [hk]; decide
   have em : (row ++ [c.col.df]).map Val.c = row.map Val.c ++ [c.col.df.c] := by simp
   have hta : ∀ r : List A, List.take (row.length + 1) (row.map Val.c ++ [r]) = row.map Val.c ++ [r] := fun r => dP (by simp)
   simp only [Z1f, go_sem, e1, j1, em, j3, if_true, dN, eE, dO, dG, hl, j4, hta, and_self, dF, dH]
 . unfold nmI at e1
   rw [ha] at e1
   simp only at e1
   have hm : ¬ ((i : Int) < 0) := by omega
   have hw : IntKind.i64.wrap ((i : Int) + 1) = (i : Int) + 1 := Zk (n := i) (by unfold big at hl; omega)
   rcases hk with hk | hk | hk
   . have j1 : (c.k = 1) = False := by rw [hk]; decide
     have j2 : (c.k = 2) = True := by rw [hk]; decide
     have i0 := eP i
     have it := eQ i
     have j0 : (0 : Int) <= (i : Int) + 1 := by omega
     have jt : ((i : Int) + 1).toNat = i + 1 := by omega
     have h1 : i <= row.length := by omega
     have h2 : i + 1 <= row.length := by omega
     have h3 : ((row.map Val.c).drop (i + 1)).take (row.length - (i + 1)) = (row.map Val.c).drop (i + 1) := dP (by simp)
     have h4 : i + (row.length - (i + 1)) <= big := by omega
     have h5 : ((row.map Val.c).take i).take i = (row.map Val.c).take i := by rw [List.take_take, Nat.min_self]
     have h6 : min i row.length = i := by omega
     have h7 : i <= big := by omega
     have em : (Z3z i row).map Val.c = (row.map Val.c).take i ++ (row.map Val.c).drop (i + 1) := by unfold Z3z; rw [eO, gQ, List.map_drop]
     have h9 : (List.take i (List.map Val.c row) ++ List.drop (i + 1) (List.map Val.c row)).length = i + (row.length - (i + 1)) := by simp; omega
     have j6 : ¬ (i + (row.length - (i + 1)) < i + (row.length - (i + 1))) := eL _
     simp only [Z1f, go_sem, e1, ha, j1, j2, hw, i0, it, j0, jt, h1, h2, h4, h5, h6, h7, h9, j6, j3, j4, em, if_true, if_false, dN, gS, gB, dG, dO, fJ, and_self, dF, dH, fL, dI]
   . have j1 : (c.k = 1) = False := by rw [hk]; decide
     have j2 : (c.k = 2) = False := by rw [hk]; decide
     have j5 : (c.k = 4) = False := by rw [hk]; decide
     simp only [Z1f, go_sem, e1, ha, j1, j2, j5, j4, j3, if_true, if_false, dN, dG, dO, and_self, dF, dH]
   . have j1 : (c.k = 1) = False := by rw [hk]; decide
     have j2 : (c.k = 2) = False := by rw [hk]; decide
     have j5 : (c.k = 4) = True := by rw [hk]; decide
     have hx : row[i]? = some row[i] := dS hi
     simp only [ha, hx]
     generalize row[i] = x at hx
     have j7 := Zq (f := Val.c) hx
     have ev := Zd4 (show 3 <= D by omega) x c.col.k (hr x (dY hx))
     have em : (row.set i (Z3m x c.col.k)).map Val.c = (row.map Val.c).set i (Z3m x c.col.k).c := gN
     have i0 := eP i
     have it := eQ i
     simp only [Z1f, go_sem, e1, ev, j1, j2, j5, hi, i0, it, j7, j4, j3, em, Wl, if_true, if_false, dN, dK, dG, dO, and_self, dF, dH]
def raS (s : List ColV) (cs : List Chg) (i : Nat) (b : List ColV × List Val) : St :=
 if i = 0 then ⟨upd (upd (upd (upd (fun _ => .bad) 0 (.lit Z0 (s.map ColV.c))) 1 (.lit Z3 (cs.map Chg.c))) 9 (cV Z2 0 b.2.length false)) 10 (.n i), upd (fun _ => none) 0 (cU Z2 (b.2.map Val.c)), 1, 0⟩
 else ⟨upd (upd (upd (upd (fun _ => .bad) 0 (cV Z0 0 b.1.length false)) 1 (.lit Z3 (cs.map Chg.c))) 9 (cV Z2 1 b.2.length false)) 10 (.n i), upd (upd (fun _ => none) 0 (cU Z0 (b.1.map ColV.c))) 1 (cU Z2 (b.2.map Val.c)), 2, 0⟩
theorem Zxy {D : Nat} (hD : 6 <= D) (s : List ColV) (cs : List Chg) (row : List Val) (hs : Zl s = true) (hc : ∀ c ∈ cs, SmallG c) (hcl : cs.length <= big) (I : RwI s cs 0 (s, row)) :
 Vg (Zd (Zj (aH D) Z56) [0, 1, 9, 10] rounds (raS s cs 0 (s, row))) (List ColV × List Val) Unit (.inl (Zg2 (s, row) cs))
  (fun b o => ∃ U' m, o = .exit 0 U' /\ U'.s 9 = cV Z2 m b.2.length false /\ U'.h m = cU Z2 (b.2.map Val.c)) (fun _ o => False) := by
 rw [<- Zx3 cs 0]
 refine Zt cs (raS s cs) rwG (fun i b => RwI s cs i b /\ Zl b.1 = true) _ _ (s, row) ⟨I, hs⟩ hcl (fun i b c K j0 hlt hI => ?_) (fun b K hI => ?_)
 . obtain ⟨hI, j3⟩ := hI
   obtain ⟨hq, j4, hk⟩ := hI.step j0 (hc c (dY j0))
   have hr := Zq (f := Chg.c) j0
   have hw := Zk (n := i) (by unfold big at hcl; omega)
   have hg := hc c (dY j0)
   have e1 := Z65 hD b.1 c j3 hg
   have e2 := Y3h (show 5 <= D by omega) b.1 c b.2 hI.cols hg hI.vals (by rw [hI.len]; exact hI.clen) hk
   have j2 := Zb ColV.c b.1
   have j1 := Zb Val.c b.2
   refine ⟨?_, j4, Zcm hq⟩
   obtain ⟨bs, br⟩ := b
   simp only at e1 e2 j2 j1 hq
   rw [hq] at e1
   cases i with
   | zero =>
     have hf := hI.first rfl
     simp only at hf
     subst hf
     unfold raS
     rw [if_pos rfl, if_neg (by omega)]
     simp only [Zd, Z1k, Vk, go_sem, dN, hr, hlt, hw, e1, e2, j1, Za, Zp, dO]
   | succ i =>
     unfold raS
     rw [if_neg (by omega), if_neg (by omega)]
     simp only [Zd, Z1k, Vk, go_sem, dN, hr, hlt, hw, e1, e2, j2, j1, Za, Zp, dO]
 . have hi : ¬ cs.length < cs.length := by omega
   obtain ⟨bs, br⟩ := b
   unfold raS
   split
   . simp only [Zd, Z1k, Vk, go_sem, dN, hi]
     exact ⟨_, rfl, _, _, rfl, rfl, rfl⟩
   . simp only [Zd, Z1k, Vk, go_sem, dN, hi]
     exact ⟨_, rfl, _, _, rfl, rfl, rfl⟩
theorem Zzw {D : Nat} (hD : 8 <= D) (s s' : List ColV) (cs : List Chg) (row : List Val) (hs : Zl s = true) (hch : chgs s cs = some s') (hc : ∀ c ∈ cs, SmallG c) (hcl : cs.length <= big) (hl : row.length = s.length) (hv : V9 row) :
 den pr D Z4d [.lit Z0 (s.map ColV.c), .lit Z3 (cs.map Chg.c), .lit Z2 (row.map Val.c)] = some [.olit Z2 ((Zek s cs row).map Val.c)] := by
 obtain ⟨D, rfl, hd⟩ := Zc hD
 rw [Zhu]
 have j0 := Yq hs
 have e1 := Z58 (show 7 <= D by omega) s cs j0.1 hc hcl
 unfold Z6k at e1
 rw [if_pos hs, hch] at e1
 simp only [dD, fI] at e1
 have I : RwI s cs 0 (s, row) := ⟨j0.1, j0.2, hv, hl, by rw [dI]; simp only [hch]; rfl, fun _ => rfl⟩
 obtain ⟨out, lo, lp⟩ := Zxy (show 6 <= D by omega) s cs row hs hc hcl I
 unfold raS at lo
 rw [if_pos rfl, show ((0 : Nat) : Int) = 0 from rfl] at lo
 simp only at lp lo
 obtain ⟨U', m, rfl, l1, l2⟩ := lp
 have j2 : ((Zg2 (s, row) cs).2.map Val.c).take (Zg2 (s, row) cs).2.length = (Zg2 (s, row) cs).2.map Val.c := dP (by simp)
 have j4 := Zb Val.c row
 have j1 : row.length <= big := by have := j0.2; omega
 have j3 : ((row.length : Int) = (s.length : Int)) = True := by rw [hl]; simp
 simp only [Z7n, go_sem, e1, lo, l1, l2, j1, j3, dN, Za, dG, dF, dH, and_self, if_true, j2, Zek]
theorem Zfg {D : Nat} (hD : 8 <= D) (t : Tab) (ht : SmallT t) (v : Nat) (hv : v <= t.chg.length) : den pr D Yg [.agg t.c, .n (v : Int)] = some [.olit Z0 (((Z6k t.first (t.chg.take v)).getD []).map ColV.c)] := by
 obtain ⟨D, rfl, hd⟩ := Zc hD
 rw [Zg6]
 have hg := ht.glen
 have e1 := Z58 (show 7 <= D by omega) t.first (t.chg.take v) ht.cols (fun c hc => ht.chg c (fC hc)) (by rw [gS]; omega)
 have m1 : (t.chg.take v).map Chg.c = (t.chg.map Chg.c).take v := gQ
 rw [m1] at e1
 have v0 := eP v
 have vt := eQ v
 simp only [Z6a, go_sem, e1, v0, vt, hv, Za, dN, dO, dG, fJ, and_self, if_true, dI, fL]
theorem Z2l {D : Nat} (hD : 9 <= D) (t : Tab) (ht : SmallT t) (hs : Zl t.first = true) : den pr D Yl [.agg t.c] = some [.olit Z0 ((Z9 t).map ColV.c)] := by
 obtain ⟨D, rfl, hd⟩ := Zc hD
 rw [Zjl]
 have e1 := Zfg (show 8 <= D by omega) t ht t.chg.length (dO _)
 unfold Z6k at e1
 rw [if_pos hs, List.take_length] at e1
 have j0 : den pr D Yg [.agg t.c, .n (t.chg.length : Int)] = some [.olit Z0 ((Z9 t).map ColV.c)] := e1
 simp only [Z79, go_sem, j0, Za, dN, dO]
theorem Zce {D : Nat} (hD : 9 <= D) (t : Tab) (ht : SmallT t) (hs : Zl t.first = true) (r : RowV) (H : NowOk t r) :
 den pr D Xa [.agg t.c, .agg r.c] = some [.olit Z2 ((Wf t r).map Val.c)] := by
 obtain ⟨D, rfl, hd⟩ := Zc hD
 rw [Zmn]
 obtain ⟨s, s', h1, h2, h3⟩ := H.then_
 obtain ⟨v, hv⟩ : ∃ v : Nat, r.ver = v := ⟨r.ver.toNat, by have := H.lo; omega⟩
 have j2 : r.ver.toNat = v := by omega
 have hvl : v <= t.chg.length := by have := H.hi; omega
 have j0 := H.len
 unfold Wf
 rw [j2] at h1 h2 j0 ⊢
 rw [h1] at j0 ⊢
 simp only [dD] at j0 ⊢
 have hg := ht.glen
 have e1 := Zfg (show 8 <= D by omega) t ht v hvl
 unfold Z6k at e1
 rw [if_pos hs, h1] at e1
 have j3 := Z0h hs h1
 have e2 := Zzw (show 8 <= D by omega) s s' (t.chg.drop v) r.vals j3 h2 (fun c hc => ht.chg c (eS hc)) (by rw [gB]; omega) j0 H.vals
 have m2 : (t.chg.drop v).map Chg.c = (t.chg.map Chg.c).drop v := List.map_drop
 rw [m2] at e2
 have v0 := eP v
 have vt := eQ v
 have htf : List.take t.chg.length (List.map Chg.c t.chg) = List.map Chg.c t.chg := dP (by simp)
 have hts := Zb ColV.c s
 obtain ⟨j5, j4, j1⟩ := r
 simp only at hv e2 ⊢
 subst hv
 simp only [dD] at e1
 simp only [Z8i, go_sem, e1, e2, v0, vt, hvl, htf, hts, Za, Zp, dN, dO, fJ, and_self, if_true, dI]
abbrev roS (s : List ColV) (row : List Val) (i : Nat) : St := ⟨upd (upd (upd (fun _ => .bad) 0 (.lit Z0 (s.map ColV.c))) 1 (.lit Z2 (row.map Val.c))) 5 (.n i), fun _ => none, 0, 0⟩
theorem Zrz {D : Nat} (s : List ColV) (row : List Val) (i : Nat) (vk vn : Int) (vt cn : ByteArray) (ck : Int) (need once : Bool) (cd : Val) (q1 : Bool) (K : Nat)
 (hx : (row.map Val.c)[i]? = some (Val.mk vk vn vt).c) (hc : (s.map ColV.c)[i]? = some (ColV.mk cn ck need once cd).c) (hlt : i < row.length) (his : i < s.length) (hw : IntKind.i64.wrap ((i : Int) + 1) = ((i + 1 : Nat) : Int)) (e1 : den pr D Wy [.agg (Val.mk vk vn vt).c] = some [.q q1]) :
 match (bif q1 && ((decide (vk = 0) || decide (vk = ck)) && !(need && decide (vk = 0))) then (.inl () : Unit ⊕ Unit) else .inr ()) with
 | .inl _ => Zd (Zj (aH D) Z01) [0, 1, 5] (K + 1) (roS s row i) = Zd (Zj (aH D) Z01) [0, 1, 5] K (roS s row (i + 1))
 | .inr _ => ∃ out, Zd (Zj (aH D) Z01) [0, 1, 5] (K + 1) (roS s row i) = some out /\ ∃ U', out = .ret U' /\ U'.s 4 = .q false := by
 cases q1 with
 | false =>
   simp only [gF, cond_false]
   rcases pf (vk = 0) with h0 | h0
   . simp only [roS, Zd, W9, Xb, go_sem, dN, hx, hlt, e1, hc, h0]
     exact ⟨_, rfl, _, rfl, rfl⟩
   . simp only [roS, Zd, W9, Xb, go_sem, dN, hx, hlt, e1, hc, h0]
     exact ⟨_, rfl, _, rfl, rfl⟩
 | true =>
   rcases pf (vk = 0) with h0 | h0
   . cases need with
     | false =>
       simp only [h0, decide_true, Bool.true_or, eZ, gF, fR, cond_true]
       simp only [roS, Zd, W9, Xb, go_sem, dN, hx, hlt, hw, e1, hc, h0]
     | true =>
       simp only [h0, decide_true, Bool.true_or, eZ, Bool.not_true, cond_false]
       simp only [roS, Zd, W9, Xb, go_sem, dN, hx, hlt, e1, hc, h0]
       exact ⟨_, rfl, _, rfl, rfl⟩
   . rcases pf (vk = ck) with h1 | h1
     . simp only [h0, h1, decide_true, decide_false, Bool.false_or, eZ, hU, fR, cond_true]
       cases need with
       | false => simp only [roS, Zd, W9, Xb, go_sem, dN, hx, hlt, hw, e1, hc, h0, h1]
       | true => simp only [roS, Zd, W9, Xb, go_sem, dN, hx, hlt, hw, e1, hc, h0, h1]
     . simp only [h0, h1, decide_false, Bool.or_self, gF, hU, cond_false]
       simp only [roS, Zd, W9, Xb, go_sem, dN, hx, hlt, e1, hc, h0, h1]
       exact ⟨_, rfl, _, rfl, rfl⟩
theorem Zxu {D : Nat} (hD : 2 <= D) (s : List ColV) (row : List Val) (hr : V9 row) (hl : row.length = s.length) (hb : row.length <= big) :
 Vg (Zd (Zj (aH D) Z01) [0, 1, 5] rounds (roS s row 0)) Unit Unit (Zv (Zvq s) 0 () row)
  (fun _ o => ∃ U', o = .exit 0 U') (fun _ o => ∃ U', o = .ret U' /\ U'.s 4 = .q false) := by
 refine Zt row (fun i _ => roS s row i) (Zvq s) (fun _ _ => True) _ _ () trivial hb (fun i _ v K hv hlt _ => ?_) (fun _ K _ => ?_)
 . have hx := Zq (f := Val.c) hv
   have hw := Zk (n := i) (by unfold big at hb; omega)
   have hs : s[i]? = some s[i] := dS (by omega)
   unfold Zvq rOk Zix
   rw [hs]
   generalize s[i] = c at hs
   have hc := Zq (f := ColV.c) hs
   have j0 : i < s.length := by omega
   have e1 := Z5h hD v (hr v (dY hv))
   obtain ⟨vk, vn, vt⟩ := v
   obtain ⟨cn, ck, need, once, cd⟩ := c
   have := Zrz s row i vk vn vt cn ck need once cd _ K hx hc hlt j0 hw e1
   simp only at this ⊢
   generalize (bif Z1b ⟨vk, vn, vt⟩ && ((decide (vk = 0) || decide (vk = ck)) && !(need && decide (vk = 0))) then (Sum.inl () : Unit ⊕ Unit) else Sum.inr ()) = g at this
   cases g with
   | inl u => exact ⟨this, trivial⟩
   | inr u => exact this
 . have hi : ¬ row.length < row.length := by omega
   simp only [roS, Zd, W9, Xb, go_sem, dN, hi]
   exact ⟨_, rfl, _, rfl⟩
theorem Z5v {D : Nat} (hD : 5 <= D) (s : List ColV) (row : List Val) (hs : SmallC s) (hr : V9 row) (hb : row.length <= big) : den pr D Zw [.lit Z0 (s.map ColV.c), .lit Z2 (row.map Val.c)] = some [.q (Zl s && Z5e s row)] := by
 obtain ⟨D, rfl, hd⟩ := Zc hD
 rw [Zkk]
 have e1 := Z0w (show 4 <= D by omega) s hs
 unfold Z5e
 cases h : Zl s with
 | false =>
   rw [h] at e1
   simp only [Z1h, go_sem, e1, dN]
 | true =>
   rw [h] at e1
   by_cases hl : row.length = s.length
   . obtain ⟨out, lo, lp⟩ := Zxu (show 2 <= D by omega) s row hr hl hb
     simp only [roS] at lo
     rw [show ((0 : Nat) : Int) = 0 from rfl] at lo
     have j0 : ((row.length : Int) = (s.length : Int)) = True := by rw [hl]; simp
     rw [show decide (row.length = s.length) = true from by simp [hl], eZ]
     cases hq : Zv (Zvq s) 0 () row with
     | inl u =>
       rw [hq] at lp
       obtain ⟨U', rfl⟩ := lp
       simp only [Z1h, go_sem, e1, dN, lo, j0]
     | inr u =>
       rw [hq] at lp
       obtain ⟨U', rfl, l2⟩ := lp
       simp only [Z1h, go_sem, e1, dN, lo, l2, j0]
   . have j0 : ((row.length : Int) = (s.length : Int)) = False := eq_false (by omega)
     simp only [Z1h, go_sem, e1, dN, hl, j0]
end Go.Vm.T
end
