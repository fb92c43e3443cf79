/-
  What is asked, of both; the law, statement by statement
-/
import Derived.Test.YtcceojmajfinpaaGreatDoorFnsJ
import Derived.Test.YtcceojmajfinpaaGreatDoorFnsA
import Derived.WideShapes
import Derived.Test.YtcceojmajfinpaaGreatDoorFnsK
section
set_option linter.unusedVariables false
set_option linter.unusedSimpArgs false
set_option linter.unusedSectionVars false
namespace Go.Vm.T
open Go.Proofs
variable [Pr2]
def Y2t (c : CondV) (v : Val) : Bool := if c.how = 1 then decide (v = c.v) else if c.how = 2 then !decide (v.k = 0) && Ws v c.v else !decide (v.k = 0) && Ws c.v v
def Zaf (s : List ColV) (row : List Val) (c : CondV) : Bool := match Z3w c.nm s with
 | some i => Y2t c (row.getD i zV)
 | none => false
theorem Y5p {D : Nat} (hD : 2 <= D) (c : CondV) (v : Val) : den pr D Z68 [.agg c.c, .agg v.c] = some [.q (Y2t c v)] := by
 obtain ⟨D, rfl, hd⟩ := Zd hD
 rw [Znc]
 have e1 := Za6 hd v c.v
 have e2 := Za6 hd c.v v
 unfold Y2t
 rcases pf (c.how = 1) with h1 | h1
 . simp only [Z0r, go_sem, h1, Zhh]
 . rcases pf (c.how = 2) with h2 | h2
   . have h3 : ((2 : Int) = 1) = False := by simp
     rcases pf (v.k = 0) with h0 | h0
     . simp only [Z0r, go_sem, h1, h2, h0, e1]
     . simp only [Z0r, go_sem, h1, h2, h0, e1]
   . rcases pf (v.k = 0) with h0 | h0
     . simp only [Z0r, go_sem, h1, h2, h0, e2]
     . simp only [Z0r, go_sem, h1, h2, h0, e2]
theorem Znn {D : Nat} (hD : 4 <= D) (s : List ColV) (c : CondV) (row : List Val) (i : Nat) (hi : Z3w c.nm s = some i) (hl : s.length <= big) (hrow : i < row.length) :
 den pr D Z1e [.lit Z0 (s.map ColV.c), .agg c.c, .lit Z2 (row.map Val.c)] = some [.q (Zaf s row c)] := by
 obtain ⟨D, rfl, hd⟩ := Zd hD
 rw [Zfw]
 have e0 := Z6d (show 3 <= D by omega) c.nm s hl
 unfold nmI at e0
 rw [hi] at e0
 simp only at e0
 unfold Zaf
 rw [hi]
 simp only
 have hv := Zu (f := Val.c) (Z8g hrow)
 generalize row.getD i zV = v at *
 have i0 := eL i
 have it := eM i
 have e1 := Zn2 (show 1 <= D by omega) v c.v
 have e2 := Zn2 (show 1 <= D by omega) c.v v
 unfold Y2t
 rcases pf (c.how = 1) with h1 | h1
 . simp only [Vi, go_sem, e0, hv, i0, it, h1, Zhh]
 . rcases pf (c.how = 2) with h2 | h2
   . have h3 : ((2 : Int) = 1) = False := by simp
     rcases pf (v.k = 0) with h0 | h0
     . simp only [Vi, go_sem, e0, hv, i0, it, h1, h2, h0, e1]
     . simp only [Vi, go_sem, e0, hv, i0, it, h1, h2, h0, e1]
   . rcases pf (v.k = 0) with h0 | h0
     . simp only [Vi, go_sem, e0, hv, i0, it, h1, h2, h0, e2]
     . simp only [Vi, go_sem, e0, hv, i0, it, h1, h2, h0, e2]
theorem Zu6 {D : Nat} (hD : 5 <= D) (s : List ColV) (c : CondV) (hl : s.length <= big) (hv : c.v.t.size <= big) : den pr D Zwu [.agg c.c, .pl [.lit Z0 (s.map ColV.c)] 0] = some [.q (!Z1v s c)] := by
 obtain ⟨D, rfl, hd⟩ := Zd hD
 rw [Ydu]
 have e1 := Zgy (show 4 <= D by omega) s c hl hv
 simp only [Y8i, go_sem, e1]
theorem Zux {D : Nat} (hD : 5 <= D) (s : List ColV) (c : CondV) (row : List Val) (i : Nat) (hi : Z3w c.nm s = some i) (hl : s.length <= big) (hrow : i < row.length) : den pr D Zwo [.agg c.c, .pl [.lit Z0 (s.map ColV.c)] 0, .pl [.lit Z2 (row.map Val.c)] 0] = some [.q (!Zaf s row c)] := by
 obtain ⟨D, rfl, hd⟩ := Zd hD
 rw [Ydb]
 have e1 := Znn (show 4 <= D by omega) s c row i hi hl hrow
 simp only [Y6l, go_sem, e1]
def cfG (p : CondV -> Bool) (i : Nat) (_ : Unit) (c : CondV) : Unit ⊕ Nat := bif p c then .inr i else .inl ()
theorem Y46 (p : CondV -> Bool) : ∀ (l : List CondV) (i : Nat), (∃ k, Zz (cfG p) i () l = .inr k /\ l.any p = true) \/ (Zz (cfG p) i () l = .inl () /\ l.any p = false)
 | [], i => .inr ⟨rfl, rfl⟩
 | c :: l, i => by
   unfold Zz cfG
   cases h : p c with
   | true => exact .inl ⟨i, rfl, by simp [h]⟩
   | false =>
     rcases Y46 p l (i + 1) with ⟨k, h1, h2⟩ | ⟨h1, h2⟩
     . exact .inl ⟨k, h1, by simp [h, h2]⟩
     . exact .inr ⟨h1, by simp [h, h2]⟩
theorem Zok {D : Nat} (p : CondV -> Bool) (f : Nat) (cs : List A) (hc : PlCaps cs) (conds : List CondV) (hl : conds.length <= big) (hf : ∀ c ∈ conds, den pr D f (.agg c.c :: cs) = some [.q (p c)]) :
 Vs (Zc (Zg (aH D) Zr8) [0, 1, 7, 8] rounds ⟨upd (upd (upd (upd (fun _ => .bad) 0 (.lit Zb (conds.map CondV.c))) 1 (.fn f cs)) 7 (.n conds.length)) 8 (.n (0 : Nat)), fun _ => none, 0, 0⟩) Unit Nat (Zz (cfG p) 0 () conds)
  (fun _ o => ∃ U', o = .exit 0 U') (fun i o => ∃ U', o = .ret U' /\ U'.s 4 = .n i) := by
 refine Zw conds (fun i (_ : Unit) => ⟨upd (upd (upd (upd (fun _ => .bad) 0 (.lit Zb (conds.map CondV.c))) 1 (.fn f cs)) 7 (.n conds.length)) 8 (.n i), fun _ => none, 0, 0⟩) _ (fun _ _ => True) _ _ () trivial hl (fun i _ x K hx hlt hi => ?_) (fun _ K _ => ?_)
 . have hr := Zu (f := CondV.c) hx
   have hw := Zn (n := i) (by unfold big at hl; omega)
   have hp := hf x (dU hx)
   simp only [Zc, Y03, Zj2, go_sem, hr, hlt, hw, hc.nm, hc.rn, hc.ac, hc.cv, hc.nv, hp, cfG]
   cases p x with
   | true => simp only [go_sem]; exact ⟨_, rfl, _, rfl, rfl⟩
   | false => simp only [go_sem]
 . have hi : ¬ conds.length < conds.length := by omega
   simp only [Zc, Y03, Zj2, go_sem, hi]
   exact ⟨_, rfl, _, rfl⟩
theorem Zcz {D : Nat} (p : CondV -> Bool) (f : Nat) (cs : List A) (hc : PlCaps cs) (conds : List CondV) (hl : conds.length <= big) (hf : ∀ c ∈ conds, den pr D f (.agg c.c :: cs) = some [.q (p c)]) :
 den pr (D + 2) Zwp [.lit Zb (conds.map CondV.c), .fn f cs] = some [.q (conds.any p)] := by
 rw [Yea]
 have key : ∃ n : Int, den pr (D + 1) Y3q [.lit Zb (conds.map CondV.c), .fn f cs] = some [.n n] /\ decide (0 <= n) = conds.any p := by
  rw [Yf0]
  obtain ⟨out, lo, lp⟩ := Zok p f cs hc conds hl hf
  rw [show ((0 : Nat) : Int) = 0 from rfl] at lo
  rcases Y46 p conds 0 with ⟨k, h1, h2⟩ | ⟨h1, h2⟩
  . rw [h1] at lp
    obtain ⟨U', rfl, l2⟩ := lp
    refine ⟨k, ?_, by rw [h2]; simp⟩
    simp only [Y26, go_sem, dL, hc.nm, hc.rn, lo, l2]
  . rw [h1] at lp
    obtain ⟨U', rfl⟩ := lp
    refine ⟨-1, ?_, by rw [h2]; simp⟩
    simp only [Y26, go_sem, dL, hc.nm, hc.rn, lo]
 obtain ⟨n, h1, h2⟩ := key
 rw [<- h2]
 simp only [Y71, go_sem, hc.cl, hc.np, h1]
def Z9a (conds : List CondV) : Prop := ∀ c ∈ conds, c.v.t.size <= big
theorem Zja {s : List ColV} {c : CondV} (h : Z1v s c = true) : ∃ i, Z3w c.nm s = some i := by
 unfold Z1v at h
 cases hk : Z3w c.nm s with
 | none => rw [hk] at h; cases h
 | some i => exact ⟨i, rfl⟩
def Z8k (t : Tab) (conds : List CondV) (_ : Nat) (acc : List Int) (r : RowV) : List Int ⊕ Unit := .inl (if conds.any (fun c => !Zaf (Z7 t) (Xv t r) c) = true then acc else acc ++ [r.id])
def Z88 (t : Tab) (conds : List CondV) : List Int := (t.rows.filter fun r => !conds.any (fun c => !Zaf (Z7 t) (Xv t r) c)).map RowV.id
theorem Zch (t : Tab) (conds : List CondV) : ∀ (rs : List RowV) (i : Nat) (acc : List Int), Zz (Z8k t conds) i acc rs = .inl (acc ++ (rs.filter fun r => !conds.any (fun c => !Zaf (Z7 t) (Xv t r) c)).map RowV.id)
 | [], i, acc => by simp [Zz]
 | r :: rs, i, acc => by
   unfold Zz
   have ih := fun a => Zch t conds rs (i + 1) a
   rw [show Z8k t conds i acc r = .inl (if conds.any (fun c => !Zaf (Z7 t) (Xv t r) c) = true then acc else acc ++ [r.id]) from rfl]
   simp only
   rw [ih]
   cases h : conds.any (fun c => !Zaf (Z7 t) (Xv t r) c) with
   | true => simp [h]
   | false => simp [h]
abbrev aiS (t : Tab) (conds : List CondV) (i : Nat) (acc : List Int) : St := ⟨upd (upd (upd (upd (upd (upd (upd (fun _ => .bad) 1 (.lit Zb (conds.map CondV.c))) 2 (.ptr 0 0 0)) 5 (.ptr 1 0 0)) 6 (cT Zy 2 acc.length false)) 24 (.lit Z4 (t.rows.map RowV.c))) 25 (.n t.rows.length)) 26 (.n i), upd (upd (upd (upd (fun _ => none) 0 (cR Z1 [t.c])) 1 (cR Zd7 [[.ref Z0 3 0 (Z7 t).length (Z7 t).length false]])) 2 (cS Zy (acc.map Z1m))) 3 (some ⟨Z0, (Z7 t).map ColV.c, true, false⟩), 4, 0⟩
theorem Zwd {D : Nat} (hD : 7 <= D) (t : Tab) (T : TabOk t) (conds : List CondV) (hl : conds.length <= big) (hf : ∀ c ∈ conds, Z1v (Z7 t) c = true) :
 Vs (Zc (Zg (aH D) Z5l) [1, 2, 5, 6, 24, 25, 26] rounds (aiS t conds 0 [])) (List Int) Unit (Zz (Z8k t conds) 0 [] t.rows)
  (fun m o => ∃ U', o = .exit 0 U' /\ U'.n = 4 /\ U'.base = 0 /\ U'.s 6 = cT Zy 2 m.length false /\ U'.h 2 = cS Zy (m.map Z1m)) (fun _ o => False) := by
 have j7 := (Yh T.shape).2
 refine Zw t.rows (aiS t conds) (Z8k t conds) (fun i acc => acc.length <= i) _ _ [] (dM _) T.once.small.rlen (fun i acc r K hc hlt hI => ?_) (fun acc K hI => ?_)
 . have hr := Zu (f := RowV.c) hc
   have j4 := T.once.small.rlen
   have hw := Zn (n := i) (by unfold big at j4; omega)
   have hn := T.once.rows r (dU hc)
   have e1 := Zyf (show 7 <= D by omega) t T.once.small r hn
   have j1 := Z2u hn
   obtain ⟨D', rfl⟩ : ∃ D', D = D' + 2 := ⟨D - 2, by omega⟩
   have e2 := Zcz (D := D') (fun c => !Zaf (Z7 t) (Xv t r) c) Zwo [.pl [.lit Z0 ((Z7 t).map ColV.c)] 0, .pl [.lit Z2 ((Xv t r).map Val.c)] 0] (Zab (Zab Zhd)) conds hl (fun c j2 => by
    obtain ⟨k, hk⟩ := Zja (hf c j2)
    exact Zux (by omega) (Z7 t) c (Xv t r) k hk (by omega) (by rw [j1]; exact Z0q hk))
   unfold Z8k
   generalize (conds.any fun c => !Zaf (Z7 t) (Xv t r) c) = q at *
   generalize Xv t r = row at *
   have j3 : acc.length + 1 <= big := by omega
   have j5 := Za Z1m acc
   have j0 := Za Val.c row
   have hts := Za ColV.c (Z7 t)
   have em : (acc ++ [r.id]).map Z1m = acc.map Z1m ++ [Z1m r.id] := by simp
   have j6 : (acc ++ [r.id]).length = acc.length + 1 := by simp
   cases q with
   | true =>
     simp only [aiS, Zc, Z51, Z0o, go_sem, dL, hr, hlt, hw, e1, e2, j0, hts, Zj, dM, if_true, if_false]
     omega
   | false =>
     simp only [aiS, Zc, Z51, Z0o, go_sem, dL, hr, hlt, hw, e1, e2, j3, j5, em, j6, j0, hts, Zj, dM, if_true, if_false]
     omega
 . have hi : ¬ t.rows.length < t.rows.length := by omega
   simp only [aiS, Zc, Z51, Z0o, go_sem, hi]
   exact ⟨_, rfl, _, rfl, rfl, rfl, rfl, rfl⟩
def Zo (t : Tab) (conds : List CondV) : List Int := if Xf t = true /\ conds.length <= 3 /\ conds.any (fun c => !Z1v (Z7 t) c) = false then Z88 t conds else []
theorem Zbu {D : Nat} (hD : 10 <= D) (t : Tab) (ht : SmallT t) (conds : List CondV) (hl : conds.length <= big) (hs : Z9a conds) :
 den pr D Yw [.agg t.c, .lit Zb (conds.map CondV.c)] = some [.olit Zy ((Zo t conds).map Z1m)] := by
 obtain ⟨D, rfl, hd⟩ := Zd hD
 rw [Zk9]
 have e1 := Zbe (show 9 <= D by omega) t ht
 unfold Zo
 have i1 : ((3 : Int) < (conds.length : Int)) = ¬ (conds.length <= 3) := by rw [eq_iff_iff]; omega
 cases hok : Xf t with
 | false =>
   rw [hok] at e1
   rcases pf (conds.length <= 3) with h1 | h1 <;> simp only [Z0v, go_sem, e1, dL, i1, h1]
 | true =>
   rw [hok] at e1
   have T := Z2z ht hok
   have e2 := Ziu (show 7 <= D by omega) t ht
   rw [show ((chgs t.first t.chg).getD []) = Z7 t from rfl] at e2
   have j2 := (Yh T.shape).2
   obtain ⟨D', rfl⟩ : ∃ D', D = D' + 2 := ⟨D - 2, by omega⟩
   have e3 := Zcz (D := D') (fun c => !Z1v (Z7 t) c) Zwu [.pl [.lit Z0 ((Z7 t).map ColV.c)] 0] (Zab Zhd) conds hl (fun c hc => Zu6 (by omega) (Z7 t) c (by omega) (hs c hc))
   have hts := Za ColV.c (Z7 t)
   rcases pf (conds.length <= 3) with h1 | h1
   . cases hq : conds.any (fun c => !Z1v (Z7 t) c) with
     | true =>
       rw [hq] at e3
       simp only [Z0v, go_sem, e1, e2, e3, dL, i1, h1, hts, Z9, dM, if_true]
     | false =>
       rw [hq] at e3
       have hf : ∀ c ∈ conds, Z1v (Z7 t) c = true := by
        intro c hc
        have := List.any_eq_false.1 hq c hc
        simpa using this
       obtain ⟨out, lo, lp⟩ := Zwd (D := D' + 2) (by omega) t T conds hl hf
       rw [Zch] at lp
       obtain ⟨U', rfl, l1, l2, l3, l4⟩ := lp
       rw [dF] at l3 l4
       rw [show ((t.rows.filter fun r => !conds.any (fun c => !Zaf (Z7 t) (Xv t r) c)).map RowV.id) = Z88 t conds from rfl] at l3 l4
       simp only [aiS, eC, dH] at lo
       rw [show ((0 : Nat) : Int) = 0 from rfl] at lo
       have j1 := Za Z1m (Z88 t conds)
       have j0 : ((Z88 t conds).map Z1m).length = (Z88 t conds).length := by simp
       generalize Z88 t conds = m at *
       simp only [Z0v, go_sem, e1, e2, e3, dL, i1, h1, hts, Z9, lo, l1, l2, l3, l4, j1, j0, Yas, Y1x, dM, dE, fD, eX, if_true]
   . simp only [Z0v, go_sem, e1, dL, i1, h1]
end Go.Vm.T
namespace Go.Vm.T
open Go.Proofs
def cdG (s : List ColV) (_ : Nat) (_ : Unit) (c : CondV) : Unit ⊕ Unit := bif Wo s c then .inl () else .inr ()
theorem Y4y [Pr2] (s : List ColV) : ∀ (l : List CondV) (i : Nat), (Zz (cdG s) i () l = .inl () /\ l.any (fun c => !Wo s c) = false) \/ (Zz (cdG s) i () l = .inr () /\ l.any (fun c => !Wo s c) = true)
 | [], i => .inl ⟨rfl, rfl⟩
 | c :: l, i => by
   unfold Zz cdG
   cases h : Wo s c with
   | false => exact .inr ⟨rfl, by simp [h]⟩
   | true =>
     rcases Y4y s l (i + 1) with ⟨h1, h2⟩ | ⟨h1, h2⟩
     . exact .inl ⟨h1, by simp [h, h2]⟩
     . exact .inr ⟨h1, by simp [h, h2]⟩
def hsG (s : List ColV) (row : List Val) (_ : Nat) (b : Bool) (c : CondV) : Bool ⊕ Unit := .inl (b && Zaf s row c)
theorem Zvu (s : List ColV) (row : List Val) : ∀ (l : List CondV) (i : Nat) (b : Bool), Zz (hsG s row) i b l = .inl (b && !l.any (fun c => !Zaf s row c))
 | [], i, b => by simp [Zz]
 | c :: l, i, b => by
   unfold Zz
   rw [show hsG s row i b c = .inl (b && Zaf s row c) from rfl]
   simp only
   rw [Zvu s row l (i + 1)]
   cases b <;> cases h : Zaf s row c <;> simp [h]
variable [Pr2]
theorem Zu3 {D : Nat} (hD : 5 <= D) (s : List ColV) (hs : SmallC s) (conds : List CondV) (hl : conds.length <= big) (hd : Z9a conds) :
 Vs (Zc (Zg (aH D) Z3s) [0, 1, 5] rounds ⟨upd (upd (upd (fun _ => .bad) 0 (.lit Z0 (s.map ColV.c))) 1 (.lit Zb (conds.map CondV.c))) 5 (.n (0 : Nat)), fun _ => none, 0, 0⟩) Unit Unit (Zz (cdG s) 0 () conds)
  (fun _ o => ∃ U', o = .exit 0 U' /\ U'.s 1 = .lit Zb (conds.map CondV.c)) (fun _ o => ∃ U', o = .ret U' /\ U'.s 4 = .q false) := by
 refine Zw conds (fun i _ => ⟨upd (upd (upd (fun _ => .bad) 0 (.lit Z0 (s.map ColV.c))) 1 (.lit Zb (conds.map CondV.c))) 5 (.n i), fun _ => none, 0, 0⟩) (cdG s) (fun _ _ => True) _ _ () trivial hl (fun i _ c K hc hlt _ => ?_) (fun _ K _ => ?_)
 . have hx := Zu (f := CondV.c) hc
   have hw := Zn (n := i) (by unfold big at hl; omega)
   have e1 := Zkz hD s c hs (hd c (dU hc))
   unfold cdG
   cases h : Wo s c with
   | true =>
     rw [h] at e1
     simp only [Zc, Z3x, Z06, go_sem, dL, hx, hlt, hw, e1]
   | false =>
     rw [h] at e1
     simp only [Zc, Z3x, Z06, go_sem, dL, hx, hlt, e1]
     exact ⟨_, rfl, _, rfl, rfl⟩
 . have hi : ¬ conds.length < conds.length := by omega
   simp only [Zc, Z3x, Z06, go_sem, dL, hi]
   exact ⟨_, rfl, _, rfl, rfl⟩
theorem Zwz {D : Nat} (hD : 6 <= D) (s : List ColV) (hs : SmallC s) (conds : List CondV) (hl : conds.length <= big) (hd : Z9a conds) :
 den pr D Vc [.lit Z0 (s.map ColV.c), .lit Zb (conds.map CondV.c)] = some [.q (!conds.any (fun c => !Wo s c) && decide (conds.length <= 3))] := by
 obtain ⟨D, rfl, j0⟩ := Zd hD
 rw [Zg4]
 obtain ⟨out, lo, lp⟩ := Zu3 j0 s hs conds hl hd
 rw [show ((0 : Nat) : Int) = 0 from rfl] at lo
 have i1 : ((conds.length : Int) <= 3) = (conds.length <= 3) := by rw [eq_iff_iff]; omega
 rcases Y4y s conds 0 with ⟨h1, h2⟩ | ⟨h1, h2⟩
 . rw [h1] at lp
   obtain ⟨U', rfl, l1⟩ := lp
   rw [h2]
   rcases pf (conds.length <= 3) with p | p <;> simp only [Z37, go_sem, dL, lo, l1, i1, p]
 . rw [h1] at lp
   obtain ⟨U', rfl, l1⟩ := lp
   rw [h2]
   simp only [Z37, go_sem, lo, l1]
abbrev Y8z (t : Tab) (conds : List CondV) (i : Nat) (acc : List Int) (ex : Bool) (row : List Val) (k : Nat) (b : Bool) : St := ⟨upd (upd (upd (upd (upd (upd (upd (upd (fun _ => .bad) 1 (.lit Zb (conds.map CondV.c))) 2 (.ptr 0 0 0)) 5 (cT Zy 1 acc.length ex)) 6 (.ref Z0 2 0 (Z7 t).length (Z7 t).length false)) 7 (.n i)) 8 (cT Z2 3 row.length false)) 9 (.q b)) 10 (.n k), upd (upd (upd (upd (fun _ => none) 0 (cR Z1 [t.c])) 1 (cS Zy (acc.map Z1m))) 2 (some ⟨Z0, (Z7 t).map ColV.c, true, false⟩)) 3 (cS Z2 (row.map Val.c)), 4, 0⟩
theorem Zqn {D : Nat} (hD : 2 <= D) (t : Tab) (conds : List CondV) (i : Nat) (acc : List Int) (ex : Bool) (row : List Val) (hl : conds.length <= big) (hsl : (Z7 t).length <= big) (hrl : row.length = (Z7 t).length) (hf : ∀ c ∈ conds, ∃ k, Z3w c.nm (Z7 t) = some k) :
 Vs (Zc (Zg (aH D) Z58) [1, 2, 5, 6, 7, 8, 9, 10] rounds (Y8z t conds i acc ex row 0 true)) Bool Unit (Zz (hsG (Z7 t) row) 0 true conds)
  (fun b o => ∃ U', o = .exit 2 U' /\ U'.n = 4 /\ U'.base = 0 /\ U'.s 1 = .lit Zb (conds.map CondV.c) /\ U'.s 2 = .ptr 0 0 0 /\ U'.s 5 = cT Zy 1 acc.length ex /\ U'.s 6 = .ref Z0 2 0 (Z7 t).length (Z7 t).length false /\ U'.s 7 = .n i /\ U'.s 9 = .q b /\ U'.h = upd (upd (upd (upd (fun _ => none) 0 (cR Z1 [t.c])) 1 (cS Zy (acc.map Z1m))) 2 (some ⟨Z0, (Z7 t).map ColV.c, true, false⟩)) 3 (cS Z2 (row.map Val.c))) (fun _ o => False) := by
 refine Zw conds (fun k b => Y8z t conds i acc ex row k b) (hsG (Z7 t) row) (fun _ _ => True) _ _ true trivial hl (fun k b c K hc hlt _ => ?_) (fun b K _ => ?_)
 . have hx := Zu (f := CondV.c) hc
   have hw := Zn (n := k) (by unfold big at hl; omega)
   obtain ⟨j, hj⟩ := hf c (dU hc)
   have j2 := Z0q hj
   have e1 := Zcy (show 1 <= D by omega) c.nm (Z7 t) hsl
   unfold nmI at e1
   rw [hj] at e1
   simp only at e1
   have j1 : j < row.length := by omega
   have hv := Zu (f := Val.c) (Z8g j1)
   have e2 := Y5p hD c (row.getD j zV)
   have hh : Zaf (Z7 t) row c = Y2t c (row.getD j zV) := by unfold Zaf; rw [hj]
   unfold hsG
   rw [hh]
   generalize row.getD j zV = v at *
   have j0 := eL j
   have jt := eM j
   have hts := Za ColV.c (Z7 t)
   cases b with
   | true =>
     cases hb : Y2t c v <;> rw [hb] at e2 <;> simp only [Y8z, Zc, Z5n, Z0p, go_sem, dL, hx, hlt, hw, e1, e2, hv, j1, j0, jt, hts, dM, if_true]
   | false => simp only [Y8z, Zc, Z5n, Z0p, go_sem, dL, hx, hlt, hw, e1, e2, hv, j1, j0, jt, hts, dM, if_true]
 . have hi : ¬ conds.length < conds.length := by omega
   simp only [Y8z, Zc, Z5n, Z0p, go_sem, dL, hi]
   exact ⟨_, rfl, _, rfl, rfl, rfl, rfl, rfl, rfl, rfl, rfl, rfl, rfl⟩
end Go.Vm.T
namespace Go.Vm.T
open Go.Proofs
variable [Pr2]
abbrev siS (t : Tab) (conds : List CondV) (i : Nat) (acc : List Int) : St := ⟨upd (upd (upd (upd (upd (fun _ => .bad) 1 (.lit Zb (conds.map CondV.c))) 2 (.ptr 0 0 0)) 5 (.ref Zy 1 0 acc.length acc.length (decide (acc.length = 0)))) 6 (.ref Z0 2 0 (Z7 t).length (Z7 t).length false)) 7 (.n i), upd (upd (upd (fun _ => none) 0 (cR Z1 [t.c])) 1 (cS Zy (acc.map Z1m))) 2 (some ⟨Z0, (Z7 t).map ColV.c, true, false⟩), 3, 0⟩
theorem Ztm {D : Nat} (hD : 9 <= D) (t : Tab) (T : TabOk t) (conds : List CondV) (hl : conds.length <= big) (hf : ∀ c ∈ conds, ∃ k, Z3w c.nm (Z7 t) = some k) :
 Vs (Zc (Zg (aH D) Z53) [1, 2, 5, 6, 7] rounds (siS t conds 0 [])) (List Int) Unit (Zz (Z8k t conds) 0 [] t.rows)
  (fun m o => ∃ U' ex, o = .exit 0 U' /\ U'.n = 3 /\ U'.base = 0 /\ U'.s 5 = cT Zy 1 m.length ex /\ U'.h 1 = cS Zy (m.map Z1m)) (fun _ o => False) := by
 have j5 := (Yh T.shape).2
 refine Zw t.rows (siS t conds) (Z8k t conds) (fun i acc => acc.length <= i) _ _ [] (dM _) T.once.small.rlen (fun i acc r K hc hlt hI => ?_) (fun acc K hI => ?_)
 . have hr := Zu (f := RowV.c) hc
   have j2 := T.once.small.rlen
   have hw := Zn (n := i) (by unfold big at j2; omega)
   have hn := T.once.rows r (dU hc)
   have e1 := Zai hD t T.once.small T.sh r hn
   have j0 := Z2u hn
   obtain ⟨out, lo, lp⟩ := Zqn (D := D) (by omega) t conds i acc (decide (acc.length = 0)) (Xv t r) hl (by omega) j0 hf
   rw [Zvu, eN] at lp
   obtain ⟨U', rfl, m1, m2, l1, l2, l5, l6, l7, l9, lh⟩ := lp
   simp only [Y8z] at lo
   rw [show ((0 : Nat) : Int) = 0 from rfl] at lo
   unfold Z8k
   generalize (conds.any fun c => !Zaf (Z7 t) (Xv t r) c) = q at *
   generalize Xv t r = row at *
   have j1 : acc.length + 1 <= big := by omega
   have j3 := Za Z1m acc
   have j6 := Za Val.c row
   have hts := Za ColV.c (Z7 t)
   have em : (acc ++ [r.id]).map Z1m = acc.map Z1m ++ [Z1m r.id] := by simp
   have j4 : (acc ++ [r.id]).length = acc.length + 1 := by simp
   have hz : decide (acc.length + 1 = 0) = false := by simp
   cases q with
   | true =>
     rw [show (!true) = false from rfl] at l9
     simp only [siS, Zc, Z5e, Z0j, go_sem, dL, hr, hlt, hw, e1, Zj, lo, m1, m2, l1, l2, l5, l6, l7, l9, lh, dM, if_true, if_false]
     omega
   | false =>
     rw [show (!false) = true from rfl] at l9
     simp only [siS, Zc, Z5e, Z0j, go_sem, dL, hr, hlt, hw, e1, Zj, lo, m1, m2, l1, l2, l5, l6, l7, l9, lh, j1, j3, em, j4, dM, if_true, if_false]
     omega
 . have hi : ¬ t.rows.length < t.rows.length := by omega
   simp only [siS, Zc, Z5e, Z0j, go_sem, dL, hi]
   exact ⟨_, rfl, _, _, rfl, rfl, rfl, rfl, rfl⟩
def g18 : List G := [.g 15 false (.mv 18 (.t 1)), .g 15 false (.call (some 19) 1 0 Vc [(.t 17), (.t 18)]), .g 15 false (.un 20 .not (.t 19)), .o (.pick 21 (.t 15) (.k (.v (.bool true))) (.t 20))]
noncomputable def Y93 (E : Env) (U : St) (o : Option A) : Nat -> A := match bnd (W9 false U (some 17) o none) (Ze E 1 g18) with | some O => O.s | none => U.s
theorem Zzu (E : Env) (U : St) (o : Option A) (k : Option St) (h : U.s 15 = .q true) : bnd (W9 false U (some 17) o k) (Ze E 1 [.g 15 false (.mv 18 (.t 1)), .g 15 false (.call (some 19) 1 0 Vc [(.t 17), (.t 18)]), .g 15 false (.un 20 .not (.t 19)), .o (.pick 21 (.t 15) (.k (.v (.bool true))) (.t 20))]) = some ⟨upd (Y93 E U o) 21 (.q true), U.h, U.n, U.base⟩ /\ Y93 E U o 5 = U.s 5 := by
 have key : ∃ f, bnd (W9 false U (some 17) o none) (Ze E 1 g18) = some ⟨upd f 21 (.q true), U.h, U.n, U.base⟩ /\ f 5 = U.s 5 := by
  rw [Wc]
  obtain ⟨s, hp, n, b⟩ := U
  simp only at h
  simp only [g18, go_sem, h, Wc, Zb8, bq2]
  first
   | exact ⟨_, rfl, rfl⟩
   | (rw [bq]; exact ⟨_, rfl, rfl⟩)
 obtain ⟨f, hf, j0⟩ := key
 have : Y93 E U o = upd f 21 (.q true) := by unfold Y93; rw [hf]
 refine ⟨?_, by rw [this]; exact j0⟩
 rw [this, Wc, <- Wc _ _ _ none]
 rw [show upd (upd f 21 (.q true)) 21 (.q true) = upd f 21 (.q true) from by funext i; simp only [Z6]; split <;> rfl]
 exact hf
theorem Y9e (E : Env) (U : St) (o : Option A) (k : Option St) (h : U.s 15 = .q true) : bnd (W9 false U (some 17) o k) (Ze E 1 [.g 15 false (.mv 18 (.t 1)), .g 15 false (.call (some 19) 1 0 Vc [(.t 17), (.t 18)]), .g 15 false (.un 20 .not (.t 19)), .o (.pick 21 (.t 15) (.k (.v (.bool true))) (.t 20))]) = some ⟨upd (Y93 E U o) 21 (.q true), U.h, U.n, U.base⟩ := (Zzu E U o k h).1
theorem Y9k (E : Env) (U : St) (o : Option A) (h : U.s 15 = .q true) : Y93 E U o 5 = U.s 5 := (Zzu E U o none h).2
theorem Z7y {D : Nat} (hD : 12 <= D) (t : Tab) (ht : SmallT t) (conds : List CondV) (hl : conds.length <= big) (hs : Z9a conds) :
 den pr D V9 [.agg t.c, .lit Zb (conds.map CondV.c)] = some [.olit Zy ((Zo t conds).map Z1m)] := by
 obtain ⟨D, rfl, hd⟩ := Zd hD
 rw [Zl2]
 have e1 := Z31 (show 11 <= D by omega) t ht
 unfold Zo
 cases hok : Xf t with
 | false =>
   rw [hok] at e1
   rw [if_neg (by simp)]
   simp only [Z28, go_sem, e1, Y9e, Y9k, dM]
 | true =>
   rw [hok] at e1
   have T := Z2z ht hok
   have e2 := Z30 (show 9 <= D by omega) t ht T.sh
   have j0 := Yh T.shape
   have e3 := Zwz (show 6 <= D by omega) (Z7 t) j0.1 conds hl hs
   have j3 : (conds.any fun c => !Wo (Z7 t) c) = (conds.any fun c => !Z1v (Z7 t) c) := by
    congr 1
    funext c
    unfold Wo
    rw [T.shape, eN]
   rw [j3] at e3
   have hts := Za ColV.c (Z7 t)
   by_cases hq : conds.length <= 3 /\ (conds.any fun c => !Z1v (Z7 t) c) = false
   . obtain ⟨q1, q2⟩ := hq
     rw [q2, show decide (conds.length <= 3) = true by simp [q1]] at e3
     have hf : ∀ c ∈ conds, ∃ k, Z3w c.nm (Z7 t) = some k := by
      intro c hc
      have := List.any_eq_false.1 q2 c hc
      exact Zja (by simpa using this)
     obtain ⟨out, lo, lp⟩ := Ztm (show 9 <= D by omega) t T conds hl hf
     rw [Zch] at lp
     obtain ⟨U', ex, rfl, l1, l2, l3, l4⟩ := lp
     rw [dF] at l3 l4
     rw [show ((t.rows.filter fun r => !conds.any (fun c => !Zaf (Z7 t) (Xv t r) c)).map RowV.id) = Z88 t conds from rfl] at l3 l4
     simp only [siS, eC, dH, decide_true] at lo
     rw [show ((0 : Nat) : Int) = 0 from rfl] at lo
     have j2 := Za Z1m (Z88 t conds)
     have j1 : ((Z88 t conds).map Z1m).length = (Z88 t conds).length := by simp
     rw [if_pos ⟨rfl, q1, q2⟩]
     generalize Z88 t conds = m at *
     simp only [Z28, go_sem, e1, e2, e3, dL, hts, Z9, lo, l1, l2, l3, l4, j2, j1, dM, if_true]
   . rw [if_neg (by intro h; exact hq ⟨h.2.1, h.2.2⟩)]
     have hb : (!(conds.any fun c => !Z1v (Z7 t) c) && decide (conds.length <= 3)) = false := by
      cases h1 : (conds.any fun c => !Z1v (Z7 t) c) with
      | true => rfl
      | false =>
        have : ¬ conds.length <= 3 := fun h => hq ⟨h, h1⟩
        simp [this]
     rw [hb] at e3
     simp only [Z28, go_sem, e1, e2, e3, dL, hts, Z9, dM, if_true]
end Go.Vm.T
namespace Go.Vm.T
open Go.Proofs
abbrev Y5i : List A := [.s ⟨#[]⟩, .n 0, .n 0, .n 0, .s ⟨#[]⟩]
variable [Pr2]
end Go.Vm.T
namespace Go.Vm.T
open Go.Proofs
def hdS : ACode -> ACode
 | .sq a _ => a
 | c => c
def tlS : ACode -> ACode
 | .sq _ b => b
 | c => c
def Y0b : Nat -> ACode -> ACode
 | 0, c => c
 | n + 1, c => tlS (Y0b n c)
attribute [go_sem] hdS tlS Y0b
theorem Y9m {E : Env} {C : ACode} {U U' : St} (i : Nat) (h : Zg E (hdS (Y0b i C)) U = some (.norm U')) (hC : Y0b i C = .sq (hdS (Y0b i C)) (Y0b (i + 1) C)) : Zg E (Y0b i C) U = Zg E (Y0b (i + 1) C) U' := by
 rw [hC]
 show Zgc (Zg E (hdS (Y0b i C)) U) (fun O => Zg E (Y0b (i + 1) C) O) = _
 rw [h]
 rfl
variable [Pr2]
theorem TabH.upd {h : Hp} {a b c k : Nat} {t : Tab} {x : Option Blk} (H : TabH h a b c t) (ha : ¬ a = k) (hb : ¬ b = k) (hc : k < c \/ c + t.rows.length < k) : TabH (Go.Vm.upd h k x) a b c t := by
 refine ⟨by rw [Z6, if_neg ha]; exact H.cols, by rw [Z6, if_neg hb]; exact H.chgs, by rw [Z6, if_neg (by omega)]; exact H.rows.top, fun j r hr => ?_⟩
 have hj := (dQ.1 hr).1
 rw [Z6, if_neg (by omega)]
 exact H.rows.vals j r hr
end Go.Vm.T
namespace Go.Vm.T
open Go.Proofs
variable [Pr2]
theorem TabH.low {h h' : Hp} {a b c n : Nat} {t : Tab} (H : TabH h a b c t) (k : ∀ x, x < n -> h' x = h x) (ab : a < b) (bc : b < c) (cn : c + t.rows.length < n) : TabH h' a b c t := by
 refine ⟨by rw [k a (by omega)]; exact H.cols, by rw [k b (by omega)]; exact H.chgs, by rw [k c (by omega)]; exact H.rows.top, fun j r hr => ?_⟩
 have hj := (dQ.1 hr).1
 rw [k _ (by omega)]
 exact H.rows.vals j r hr
theorem Zbg (t : Tab) (conds : List CondV) : (Zo t conds).length <= t.rows.length := by
 unfold Zo
 split
 . unfold Z88; rw [dL]; exact List.length_filter_le _ _
 . simp
end Go.Vm.T
namespace Go.Vm.T
variable [Pr0]
theorem Zyu {D : Nat} (es : List Int) (hl : es.length <= big) :
 Vs (Zc (Zg (aH D) Z56) [0, 1, 5] rounds ⟨upd (upd (upd (fun _ => .bad) 0 (.lit Zy (es.map Z1m))) 1 (.lit Zy (es.map Z1m))) 5 (.n (0 : Nat)), fun _ => none, 0, 0⟩) Unit Unit (Zz (fun _ _ _ => .inl ()) 0 () es)
  (fun m o => ∃ U', o = .exit 0 U') (fun _ o => False) := by
 refine Zw es (fun i (_ : Unit) => ⟨upd (upd (upd (fun _ => .bad) 0 (.lit Zy (es.map Z1m))) 1 (.lit Zy (es.map Z1m))) 5 (.n i), fun _ => none, 0, 0⟩) _ (fun _ _ => True) _ _ () trivial hl (fun i m e K hc hlt hi => ?_) (fun m K _ => ?_)
 . have hr := Zu (f := Z1m) hc
   have hw := Zn (n := i) (by unfold big at hl; omega)
   simp only [Zc, Z8d, Z2e, go_sem, dL, hr, hlt, hw]
 . have hi : ¬ es.length < es.length := by omega
   simp only [Zc, Z8d, Z2e, go_sem, dL, hi]
   exact ⟨_, rfl, _, rfl⟩
theorem Zj9 {D : Nat} (hD : 1 <= D) (es : List Int) (hl : es.length <= big) : den pr D Xw [.lit Zy (es.map Z1m), .lit Zy (es.map Z1m)] = some [.q true] := by
 obtain ⟨D, rfl, hd⟩ := Zd hD
 rw [Zjn]
 obtain ⟨out, lo, lp⟩ := Zyu (D := D) es hl
 rw [Zs2] at lp
 obtain ⟨U', rfl⟩ := lp
 rw [show ((0 : Nat) : Int) = 0 from rfl] at lo
 simp only [Z79, go_sem, dL, lo]
theorem Zbw : ∀ a b : List UInt8, Wh a b = false -> Wh b a = false -> a = b
 | [], [], _, _ => rfl
 | [], y :: b, h, _ => by cases h
 | x :: a, [], _, h => by cases h
 | x :: a, y :: b, h1, h2 => by
   have e1 : Wh (x :: a) (y :: b) = (decide (x < y) || (x == y && Wh a b)) := rfl
   have e2 : Wh (y :: b) (x :: a) = (decide (y < x) || (y == x && Wh b a)) := rfl
   rw [e1, fB] at h1
   rw [e2, fB] at h2
   have n1 := of_decide_eq_false h1.1
   have n2 := of_decide_eq_false h2.1
   have j0 : x = y := UInt8.le_antisymm (UInt8.not_lt.1 n2) (UInt8.not_lt.1 n1)
   subst j0
   have h3 := h1.2
   have h4 := h2.2
   simp only [beq_self_eq_true, eN] at h3 h4
   rw [Zbw a b h3 h4]
theorem Zib (a b : Val) (h1 : Ws a b = false) (h2 : Ws b a = false) : a = b := by
 obtain ⟨k, n, t⟩ := a
 obtain ⟨k', n', t'⟩ := b
 unfold Ws at h1 h2
 simp only at h1 h2
 by_cases hk : k = k'
 . subst hk
   by_cases hn : n = n'
   . subst hn
     simp only [decide_true, Bool.not_true, cond_false] at h1 h2
     have := Zbw _ _ h1 h2
     rw [Go.ByteArray.toList_eq, Go.ByteArray.toList_eq] at this
     rw [Go.WideShapes.bytes_inj this]
   . have j1 : ¬ n' = n := fun h => hn h.symm
     simp only [decide_true, Bool.not_true, cond_false, hn, j1, decide_false, fQ, cond_true, decide_eq_false_iff_not] at h1 h2
     omega
 . have j0 : ¬ k' = k := fun h => hk h.symm
   simp only [hk, j0, decide_false, fQ, cond_true, decide_eq_false_iff_not] at h1 h2
   omega
theorem Zop (x y : UInt8) (a b : List UInt8) : Wh (x :: a) (y :: b) = true ↔ x < y \/ (x = y /\ Wh a b = true) := by
 have e1 : Wh (x :: a) (y :: b) = (decide (x < y) || (x == y && Wh a b)) := rfl
 rw [e1, fM, dO, eF, beq_iff_eq]
theorem Zbx : ∀ a b c : List UInt8, Wh a b = true -> Wh b c = true -> Wh a c = true
 | [], [], _, h, _ => by cases h
 | _ :: _, [], _, h, _ => by cases h
 | [], y :: b, [], _, h => by cases h
 | [], y :: b, z :: c, _, _ => rfl
 | x :: a, y :: b, [], _, h => by cases h
 | x :: a, y :: b, z :: c, h1, h2 => by
   rw [Zop] at *
   rcases h1 with h1 | ⟨rfl, h1⟩
   . rcases h2 with h2 | ⟨rfl, h2⟩
     . exact .inl (UInt8.lt_trans h1 h2)
     . exact .inl h1
   . rcases h2 with h2 | ⟨rfl, h2⟩
     . exact .inl h2
     . exact .inr ⟨rfl, Zbx a b c h1 h2⟩
theorem Zqc (a b : Val) : Ws a b = true ↔ a.k < b.k \/ (a.k = b.k /\ (a.n < b.n \/ (a.n = b.n /\ Wh a.t.toList b.t.toList = true))) := by
 unfold Ws
 by_cases hk : a.k = b.k
 . by_cases hn : a.n = b.n
   . simp [hk, hn]
   . simp [hk, hn]
 . simp [hk]
theorem Zka (a b c : Val) (h1 : Ws a b = true) (h2 : Ws b c = true) : Ws a c = true := by
 rw [Zqc] at *
 rcases h1 with h1 | ⟨k1, h1⟩
 . rcases h2 with h2 | ⟨k2, h2⟩
   . exact .inl (by omega)
   . exact .inl (by omega)
 . rcases h2 with h2 | ⟨k2, h2⟩
   . exact .inl (by omega)
   . refine .inr ⟨by omega, ?_⟩
     rcases h1 with h1 | ⟨n1, h1⟩
     . rcases h2 with h2 | ⟨n2, h2⟩
       . exact .inl (by omega)
       . exact .inl (by omega)
     . rcases h2 with h2 | ⟨n2, h2⟩
       . exact .inl (by omega)
       . exact .inr ⟨by omega, Zbx _ _ _ h1 h2⟩
theorem Small.put {es : List Ent} (hs : Small es) (hl : es.length + 1 <= big) {e : Ent} (he : e.v.t.size <= big) : Small (Yci e es) := ⟨by rw [Y0m]; exact hl, fun x hx => by
 unfold Yci at hx
 rcases dS.1 hx with hx | hx
 . rcases dS.1 hx with hx | hx
   . exact hs.txt x (eZ hx)
   . rcases eG.1 hx with rfl | hx
     . exact he
     . cases hx
 . exact hs.txt x (eO hx)⟩
end Go.Vm.T
namespace Go.Vm.T
open Go.Proofs
variable [Pr2]
abbrev isS (t : Tab) (k : Nat) (i : Nat) (es : List Ent) : St := ⟨upd (upd (upd (upd (fun _ => .bad) 2 (.ptr 0 0 0)) 5 (.ref Zda 1 0 es.length es.length (decide (es.length = 0)))) 6 (.n k)) 7 (.n i), upd (upd (fun _ => none) 0 (cR Z1 [t.c])) 1 (cS Zda (es.map Ent.c)), 2, 0⟩
end Go.Vm.T
namespace Go.Vm.T
open Go.Proofs
def Wd (t : Tab) : List ColV := if Xf t = true then Z7 t else []
theorem Zes [Pr2] {t : Tab} (ht : SmallT t) : (Wd t).length <= 5 /\ SmallC (Wd t) := by
 unfold Wd
 cases hok : Xf t with
 | false => exact ⟨dE _, by rw [if_neg (by decide)]; exact ⟨dE _, fun x hx => nomatch hx⟩⟩
 | true =>
   rw [if_pos rfl]
   have T := Z2z ht hok
   exact ⟨(Z6x T.shape).2, (Yh T.shape).1⟩
variable [Pr2]
theorem Z8h {D : Nat} (hD : 10 <= D) (t : Tab) (ht : SmallT t) : den pr D Y97 [.agg t.c] = some [.olit Z0 ((Wd t).map ColV.c)] := by
 obtain ⟨D, rfl, hd⟩ := Zd hD
 rw [Yg1]
 have e1 := Zbe (show 9 <= D by omega) t ht
 unfold Wd
 cases hok : Xf t with
 | false =>
   rw [hok] at e1
   simp only [Ycg, go_sem, e1, dM, dH]
 | true =>
   rw [hok] at e1
   have e2 := Ziu (show 7 <= D by omega) t ht
   rw [show ((chgs t.first t.chg).getD []) = Z7 t from rfl] at e2
   have hts := Za ColV.c (Z7 t)
   simp only [Ycg, go_sem, e1, e2, dL, hts, Z9, dM, if_true]
theorem Zci {D : Nat} (hD : 12 <= D) (t : Tab) (ht : SmallT t) : den pr D Y2q [.agg t.c] = some [.olit Z0 ((Wd t).map ColV.c)] := by
 obtain ⟨D, rfl, hd⟩ := Zd hD
 rw [Yf5]
 have e1 := Z31 (show 11 <= D by omega) t ht
 unfold Wd
 cases hok : Xf t with
 | false =>
   rw [hok] at e1
   simp only [Y3j, go_sem, e1, dM, dH]
 | true =>
   rw [hok] at e1
   have T := Z2z ht hok
   have e2 := Z30 (show 9 <= D by omega) t ht T.sh
   have hts := Za ColV.c (Z7 t)
   simp only [Y3j, go_sem, e1, e2, dL, hts, Z9, dM, if_true]
theorem Ztc {D : Nat} (hD : 13 <= D) (t : Tab) (ht : SmallT t) : den pr D Z24 [.agg t.c] = some [.olit Z0 ((Wd t).map ColV.c)] := by
 obtain ⟨D, rfl, hd⟩ := Zd hD
 rw [Zjh]
 have e1 := Zci (show 12 <= D by omega) t ht
 have hts := Za ColV.c (Wd t)
 generalize Wd t = s at *
 simp only [Z7e, go_sem, e1, dL, hts, Z9, dM, if_true]
def Y9u (t : Tab) (id : Int) : List Val × Bool := if Xf t = true then (match Zrl id t.rows with
 | some j => (Xv t (t.rows.getD j ⟨0, 0, []⟩), true)
 | none => ([], false)) else ([], false)
theorem Zud {D : Nat} (hD : 10 <= D) (t : Tab) (ht : SmallT t) (id : Int) : den pr D Y1e [.agg t.c, .n id] = some [.olit Z2 ((Y9u t id).1.map Val.c), .q (Y9u t id).2] := by
 obtain ⟨D, rfl, hd⟩ := Zd hD
 rw [Ydx]
 have e1 := Zbe (show 9 <= D by omega) t ht
 have e0 := Y5s (show 3 <= D by omega) t id ht.rlen
 unfold idI at e0
 unfold Y9u
 cases hok : Xf t with
 | false =>
   rw [hok] at e1
   simp only [Zyn, go_sem, e0, e1, dM, dH]
 | true =>
   rw [hok] at e1
   have T := Z2z ht hok
   cases hj : Zrl id t.rows with
   | none =>
     rw [hj] at e0
     have m0 : (-1 : Int) < 0 := by decide
     simp only [Zyn, go_sem, e0, e1, m0, dM, dH]
   | some j =>
     rw [hj] at e0
     have j0 := Zrf hj
     have hr : t.rows[j]? = some t.rows[j] := dP j0
     have j2 := Zu (f := RowV.c) hr
     have hg : t.rows.getD j ⟨0, 0, []⟩ = t.rows[j] := by simp [List.getD, hr]
     have e2 := Zyf (show 7 <= D by omega) t ht t.rows[j] (T.once.rows _ (eQ j0))
     simp only [hg]
     generalize t.rows[j] = r at *
     have k0 : ¬ (j : Int) < 0 := by omega
     have k1 := eL j
     have kt := eM j
     have j1 := Za Val.c (Xv t r)
     simp only [Zyn, go_sem, e0, e1, e2, k0, k1, kt, j2, j1, dL, Zj, dM, if_true]
def Y3v (t : Tab) (nm : ByteArray) (v : Val) (r : RowV) : Bool := match Z3w nm (Z7 t) with
 | some k => decide ((Xv t r).getD k zV = v)
 | none => false
def Zls (t : Tab) (nm : ByteArray) (v : Val) : List Int := if Xf t = true then (t.rows.filter (Y3v t nm v)).map RowV.id else []
def tfG (P : RowV -> Bool) (_ : Nat) (acc : List Int) (r : RowV) : List Int ⊕ Unit := .inl (if P r = true then acc ++ [r.id] else acc)
theorem Y56 (P : RowV -> Bool) : ∀ (rs : List RowV) (i : Nat) (acc : List Int), Zz (tfG P) i acc rs = .inl (acc ++ (rs.filter P).map RowV.id)
 | [], i, acc => by simp [Zz]
 | r :: rs, i, acc => by
   unfold Zz
   rw [show tfG P i acc r = .inl (if P r = true then acc ++ [r.id] else acc) from rfl]
   simp only
   rw [Y56 P rs (i + 1)]
   cases h : P r <;> simp [h]
abbrev tfS (t : Tab) (v : Val) (at_ : Int) (i : Nat) (acc : List Int) : St := ⟨upd (upd (upd (upd (upd (upd (upd (fun _ => .bad) 3 (.ptr 0 0 0)) 5 (.ptr 1 0 0)) 7 (.n at_)) 8 (cT Zy 2 acc.length false)) 19 (.lit Z4 (t.rows.map RowV.c))) 20 (.n t.rows.length)) 21 (.n i), upd (upd (upd (fun _ => none) 0 (cR Z1 [t.c])) 1 (cR Z2 [v.c])) 2 (cS Zy (acc.map Z1m)), 3, 0⟩
set_option maxHeartbeats 2000000 in
theorem Zom {D : Nat} (hD : 7 <= D) (t : Tab) (T : TabOk t) (nm : ByteArray) (v : Val) :
 Vs (Zc (Zg (aH D) Zxx) [3, 5, 7, 8, 19, 20, 21] rounds (tfS t v (nmI nm (Z7 t)) 0 [])) (List Int) Unit (Zz (tfG (Y3v t nm v)) 0 [] t.rows)
  (fun m o => ∃ U', o = .exit 0 U' /\ U'.n = 3 /\ U'.base = 0 /\ U'.s 8 = cT Zy 2 m.length false /\ U'.h 2 = cS Zy (m.map Z1m)) (fun _ o => False) := by
 have j5 := (Yh T.shape).2
 refine Zw t.rows (tfS t v (nmI nm (Z7 t))) (tfG (Y3v t nm v)) (fun i acc => acc.length <= i) _ _ [] (dM _) T.once.small.rlen (fun i acc r K hc hlt hI => ?_) (fun acc K hI => ?_)
 . have hr := Zu (f := RowV.c) hc
   have j3 := T.once.small.rlen
   have hw := Zn (n := i) (by unfold big at j3; omega)
   have hn := T.once.rows r (dU hc)
   have e1 := Zyf (show 7 <= D by omega) t T.once.small r hn
   have j7 := Z2u hn
   have j1 : acc.length + 1 <= big := by omega
   have j2 := Za Z1m acc
   have em : (acc ++ [r.id]).map Z1m = acc.map Z1m ++ [Z1m r.id] := by simp
   have j4 : (acc ++ [r.id]).length = acc.length + 1 := by simp
   unfold tfG nmI
   cases hk : Z3w nm (Z7 t) with
   | none =>
     have m0 : ¬ (0 : Int) <= -1 := by decide
     have hP : Y3v t nm v r = false := by unfold Y3v; rw [hk]
     rw [hP]
     simp only [tfS, Zc, Zt1, Zhi, go_sem, dL, hr, hlt, hw, m0, e1, dM, if_true, if_false]
     omega
   | some k =>
     have j8 := Z0q hk
     have j0 : k < (Xv t r).length := by omega
     have hv := Zu (f := Val.c) (Z8g j0)
     have k0 := eL k
     have kt := eM k
     have j6 := Za Val.c (Xv t r)
     have hP : Y3v t nm v r = decide ((Xv t r).getD k zV = v) := by unfold Y3v; rw [hk]
     obtain ⟨u, hu⟩ : ∃ u, u = (Xv t r).getD k zV := ⟨_, rfl⟩
     rw [<- hu] at hP hv
     have ve := Zhh u v
     by_cases q : u = v
     . rw [decide_eq_true q] at ve hP
       rw [hP]
       simp only [tfS, Zc, Zt1, Zhi, go_sem, dL, hr, hlt, hw, k0, kt, e1, hv, j0, j1, j2, em, j4, ve, Zj, dM, if_true, if_false]
       omega
     . rw [decide_eq_false q] at ve hP
       rw [hP]
       simp only [tfS, Zc, Zt1, Zhi, go_sem, dL, hr, hlt, hw, k0, kt, e1, hv, j0, j1, j2, ve, Zj, dM, if_true, if_false]
       omega
 . have hi : ¬ t.rows.length < t.rows.length := by omega
   simp only [tfS, Zc, Zt1, Zhi, go_sem, hi]
   exact ⟨_, rfl, _, rfl, rfl, rfl, rfl, rfl⟩
theorem Zel {D : Nat} (hD : 10 <= D) (t : Tab) (ht : SmallT t) (nm : ByteArray) (v : Val) : den pr D Ybg [.agg t.c, .s nm, .agg v.c] = some [.olit Zy ((Zls t nm v).map Z1m)] := by
 obtain ⟨D, rfl, hd⟩ := Zd hD
 rw [Ygb]
 have e1 := Zbe (show 9 <= D by omega) t ht
 unfold Zls
 cases hok : Xf t with
 | false =>
   rw [hok] at e1
   simp only [Ycl, go_sem, e1, dM, dH]
 | true =>
   rw [hok] at e1
   have T := Z2z ht hok
   have j0 := Yh T.shape
   have e2 := Ziu (show 7 <= D by omega) t ht
   rw [show ((chgs t.first t.chg).getD []) = Z7 t from rfl] at e2
   have e3 := Z6d (show 3 <= D by omega) nm (Z7 t) j0.1.1
   have hts := Za ColV.c (Z7 t)
   obtain ⟨out, lo, lp⟩ := Zom (D := D) (by omega) t T nm v
   rw [Y56] at lp
   obtain ⟨U', rfl, l1, l2, l3, l4⟩ := lp
   rw [dF] at l3 l4
   rw [if_pos rfl]
   obtain ⟨D, rfl⟩ : ∃ D', D = D' + 1 := ⟨D - 1, by omega⟩
   simp only [tfS, eC, dH] at lo
   rw [show ((0 : Nat) : Int) = 0 from rfl] at lo
   generalize (t.rows.filter (Y3v t nm v)).map RowV.id = m at *
   generalize Z7 t = sh at *
   have j2 := Za Z1m m
   have j1 : (m.map Z1m).length = m.length := by simp
   simp only [Ycl, go_sem, e1, e2, e3, dL, hts, Z9, lo, l1, l2, l3, l4, j2, j1, Yas, Y1x, dM, dE, fD, eX, if_true]
theorem Zvl {D : Nat} (hD : 6 <= D) (cs : List ColV) (c : CondV) (row : List Val) (hs : SmallC cs) (hv : c.v.t.size <= big) (hr : row.length <= big) :
 den pr D Z39 [.lit Z0 (cs.map ColV.c), .agg c.c, .lit Z2 (row.map Val.c)] = some [.q (Wo cs c && (decide (row.length = cs.length) && Zaf cs row c))] := by
 obtain ⟨D, rfl, hd⟩ := Zd hD
 rw [Zgj]
 have e1 := Zbl (show 5 <= D by omega) cs c hs hv
 cases hok : Wo cs c with
 | false =>
   rw [hok] at e1
   simp only [Z1b, go_sem, e1, dL, Wc, bq2]
   try rw [bq]
   try simp only [go_sem]
 | true =>
   rw [hok] at e1
   rcases pf (row.length = cs.length) with h | h
   . have j0 : Z1v cs c = true := by unfold Wo at hok; simp only [dO] at hok; exact hok.2
     obtain ⟨i, hi⟩ := Zja j0
     have e2 := Znn (show 4 <= D by omega) cs c row i hi hs.1 (by have := Z0q hi; have := of_eq_true h; omega)
     have h' : ((row.length : Int) = (cs.length : Int)) = True := by rw [of_eq_true h]; exact eq_true rfl
     simp only [Z1b, go_sem, e1, e2, dL, h, h']
   . have h' : ((row.length : Int) = (cs.length : Int)) = False := eq_false (by have := of_eq_false h; omega)
     simp only [Z1b, go_sem, e1, dL, h, h', Wc, bq2]
     try rw [bq]
     try simp only [go_sem]
end Go.Vm.T
namespace Go.Vm.T
open Go.Proofs
variable [Pr2]
theorem Zjl {v : Nat} : ∀ {ns : List Nat} {h : Hp}, ¬ v ∈ ns -> frz h ns v = h v
 | [], h, _ => rfl
 | b :: bs, h, hv => by
   unfold frz
   have h1 : ¬ v = b := fun e => hv (by simp [e])
   have h2 : ¬ v ∈ bs := fun e => hv (by simp [e])
   cases e : h b with
   | none => exact Zjl h2
   | some k =>
     show frz (upd h b (some { k with own := false })) bs v = h v
     rw [Zjl h2, Z6, if_neg h1]
theorem Zrm {h : Hp} {m k : Nat} : ∀ {rs : List (List A)} {rows : List (List A)} {ns : List Nat}, (∀ x ∈ rs, Y5d h m x) -> Z01 (clD h (k + 1)) rs = some (rows, ns) -> ∀ v ∈ ns, m <= v
 | [], rows, ns, _, e => by
   unfold Z01 at e
   simp only [dK, dR] at e
   obtain ⟨-, rfl⟩ := e
   intro v hv
   cases hv
 | x :: rs, rows, ns, H, e => by
   obtain ⟨id, ver, u, vals, ex, ow, rfl, hu, q1, q2, q3⟩ := H x (by simp)
   have hr : Z5q (clD h (k + 1)) [.n id, .n ver, cT Z2 u vals.length ex] = some ((⟨id, ver, vals⟩ : RowV).c, [u]) := by
    show bnd (clD h (k + 1) (.n id)) _ = _
    rw [show clD h (k + 1) (.n id) = some (.n id, []) from rfl]
    show bnd (bnd (clD h (k + 1) (.n ver)) _) _ = _
    rw [show clD h (k + 1) (.n ver) = some (.n ver, []) from rfl]
    show bnd (bnd (bnd (clD h (k + 1) (cT Z2 u vals.length ex)) _) _) _ = _
    have : clD h (k + 1) (cT Z2 u vals.length ex) = some (.lit Z2 (vals.map Val.c), [u]) := by
     unfold clD
     rw [hu]
     simp only [bnd, dD, dL, dM, if_true, cond_false, dG, dN (show (vals.map Val.c).length <= vals.length by simp)]
    rw [this]
    rfl
   unfold Z01 at e
   rw [hr] at e
   obtain ⟨p, e1, e2⟩ := Z5 e
   cases e1
   obtain ⟨⟨j0, j1⟩, e3, e4⟩ := Z5 e2
   have ih := Zrm (k := k) (rs := rs) (fun y hy => H y (by simp [hy])) e3
   simp only [dK, dR] at e4
   obtain ⟨-, rfl⟩ := e4
   intro v hv
   rcases dS.1 hv with hv | hv
   . rw [dT] at hv; omega
   . exact ih v hv
theorem TabL.cl' {h : Hp} {m : Nat} {y : List A} (L : TabL h m y) : ∃ t ns, SmallT t /\ Z5q (clD h 4) y = some (t.c, ns) /\ ∀ v ∈ ns, m <= v := by
 obtain ⟨a, b, c, og, cs, g0, gs, rs, bx, ca, cb, cc, ea, eb, ec, nx, rfl, V⟩ := L
 obtain ⟨oa, ha⟩ := V.ha
 obtain ⟨ob, hb⟩ := V.hb
 obtain ⟨oc, hc⟩ := V.hc
 obtain ⟨rows, nr, h1, h2, h3⟩ := Zk7 (k := 2) V.rs1
 have e1 : clD h 4 (.ref Z0 a 0 cs.length ca ea) = some (.lit Z0 (cs.map ColV.c), [a]) := by
  unfold clD; rw [ha]
  simp only [bnd, dD, dL, dM, if_true, cond_false, dG, dN (show (cs.map ColV.c).length <= cs.length by simp)]
 have e2 : clD h 4 (.ref Z3 b og gs.length cb eb) = some (.lit Z3 (gs.map Chg.c), [b]) := by
  unfold clD; rw [hb]
  have j0 : og + gs.length <= (g0.map Chg.c).length := by rw [dL]; exact V.gs2
  have hm : ((g0.map Chg.c).drop og).take gs.length = gs.map Chg.c := by
   rw [<- List.map_drop, <- gL, <- V.gs1]
  simp only [bnd, j0, if_true, cond_false, hm]
 have e3 : ∃ ns, clD h 4 (.ref Z4 c 0 rs.length cc ec) = some (.lit Z4 (rows.map RowV.c), ns) /\ ∀ v ∈ ns, m <= v := by
  unfold clD; rw [hc]
  simp only [bnd, dD, dM, if_true, dG, dN (dM rs.length)]
  cases bx with
  | true =>
    rw [cond_true, h1]
    refine ⟨_, rfl, fun v hv => ?_⟩
    have c1 := V.c1
    have := Zrm (k := 2) V.rs1 h1
    rcases eG.1 hv with rfl | hv
    . exact c1
    . exact this v hv
  | false =>
    have := V.bx.resolve_left (by decide)
    subst this
    have h0 : rows = [] := fE.1 h2
    rw [h0]
    refine ⟨_, rfl, fun v hv => ?_⟩
    have c1 := V.c1
    rw [dT] at hv
    subst hv
    exact c1
 obtain ⟨ns, e3, e4⟩ := e3
 have c2 := V.cs2; have g4 := V.gs4; have r2 := V.rs2
 have a1 := V.a1; have b1 := V.b1
 refine ⟨⟨cs, gs, rows, nx⟩, [a] ++ ([b] ++ (ns ++ ([] ++ []))), ⟨⟨by simp only; unfold big; omega, V.cs1⟩, by simp only; unfold big; omega, V.gs3, by simp only; unfold big; omega, by simp only; unfold big; omega, h3⟩, ?_, fun v hv => ?_⟩
 . unfold Z5q; rw [e1]
   unfold Z5q; rw [e2]
   unfold Z5q; rw [e3]
   unfold Z5q
   rw [show clD h 4 (.n nx) = some (.n nx, []) from rfl]
   rfl
 . simp only [dS, dT, fN, or_false] at hv
   rcases hv with rfl | rfl | hv
   . exact a1
   . exact b1
   . exact e4 v hv
structure SomeT (D : Nat) (ns : List Int) (p b m : Nat) (h : Hp) (t : Tab) (y : List A) (H0 : Hp) (n' : Nat) (nm : List Nat) (p' : Nat) : Prop where
 sm : SmallT t
 e : dcl pr D Z0y [.ptr b 0 0] h m = some ([.agg y], H0, n')
 cl : Z5q (clD H0 4) y = some (t.c, nm)
 p : p' <= p + 3750
 n : m <= n'
 hb : frz H0 nm b = rdB ns p'
 low : ∀ v, v < m -> ¬ v = b -> frz H0 nm v = h v
theorem Zsk {D : Nat} (hD : 14 <= D) (ns : List Int) (hc : Code ns) (p : Nat) (hp : p + 6000 <= 2 ^ 29) (h : Hp) (m b : Nat) (hbm : b < m) (hrd : h b = rdB ns p) :
 ∃ t y H0 n' nm p', SomeT D ns p b m h t y H0 n' nm p' := by
 obtain ⟨y, H0, n', p', e, L, j2, hn, hb, low⟩ := Y3c hD ns hc p hp h m b hbm hrd
 obtain ⟨t, nm, sm, cl, j0⟩ := L.cl'
 exact ⟨t, y, H0, n', nm, p', sm, e, cl, j2, hn, by rw [Zjl (fun q => by have := j0 b q; omega)]; exact hb, fun v hv j1 => by rw [Zjl (fun q => by have := j0 v q; omega)]; exact low v hv j1⟩
structure CdI (ns : List Int) (b m qs cp : Nat) (ex ow : Bool) (cs : List ColV) (h : Hp) (q5 : Nat) (s : Nat -> A) (H : Hp) (n p : Nat) (c : CondV) : Prop where
 s0 : s 0 = .ptr b 0 0
 s1 : s 1 = .ref Z0 qs 0 cs.length cp ex
 s4 : s 4 = .ptr m 0 0
 s5 : s 5 = .ptr q5 0 0
 hb : H b = rdB ns p
 hs : H qs = some ⟨Z0, cs.map ColV.c, ow, false⟩
 h4 : H m = cR Zb [Y5i]
 h5 : H q5 = cR Zb [c.c]
 m5 : m < q5
 l5 : q5 < n
 low : ∀ y, y < m -> ¬ y = b -> H y = h y
 sz : c.v.t.size <= 5
theorem CdI.next {ns : List Int} {b m qs cp : Nat} {ex ow : Bool} {cs : List ColV} {h : Hp} {q5 : Nat} {s : Nat -> A} {H : Hp} {n p : Nat} {c : CondV} (hb' : b < m) (hqs : qs < m) (hne : ¬ qs = b) (I : CdI ns b m qs cp ex ow cs h q5 s H n p c) {s' : Nat -> A} {H' : Hp} {n' p' : Nat} {c' : CondV}
 (e0 : s' 0 = s 0) (e1 : s' 1 = s 1) (e4 : s' 4 = s 4) (e5 : s' 5 = s 5) (hb : H' b = rdB ns p') (h5 : H' q5 = cR Zb [c'.c]) (hH : ∀ y, y < n -> ¬ y = b -> ¬ y = q5 -> H' y = H y) (hn : n <= n') (sz : c'.v.t.size <= 5) : CdI ns b m qs cp ex ow cs h q5 s' H' n' p' c' := by
 have i5 := I.m5; have i6 := I.l5
 exact ⟨e0.trans I.s0, e1.trans I.s1, e4.trans I.s4, e5.trans I.s5, hb, (hH qs (by omega) hne (by omega)).trans I.hs, (hH m (by omega) (by omega) (by omega)).trans I.h4, h5, I.m5, by omega, fun y hy j0 => (hH y (by omega) j0 (by omega)).trans (I.low y hy j0), sz⟩
abbrev Ygh : List Int := [0, 4, -1]
set_option maxHeartbeats 4000000 in
theorem Yfp {D : Nat} (hD : 3 <= D) (ns : List Int) (hc : Code ns) (p : Nat) (hp : p + 40 <= 2 ^ 40) (cs : List ColV) (cp : Nat) (ex ow : Bool) (h : Hp) (m b qs : Nat) (hb : b < m) (hqs : qs < m) (hne : ¬ qs = b) (hh : h b = rdB ns p) (hs : h qs = some ⟨Z0, cs.map ColV.c, ow, false⟩) :
 ∃ s H n q5 c, Zg (aH D) Yx.code ⟨slots [.ptr b 0 0, .ref Z0 qs 0 cs.length cp ex], h, m, m⟩ = Zg (aH D) (Zs 2 Yx.code) ⟨s, H, n, m⟩ /\ CdI ns b m qs cp ex ow cs h q5 s H n (p + 2) c := by
 have B := Z8 hb
 have Q := Z8 hqs
 have n3 := eqF hne
 have n4 := eqF (Ne.symm hne)
 obtain ⟨j3, j4, e1⟩ := Zv0 ns hc Zg2 (by decide) p (by omega)
 have j0 := fun h m b bl => e1 D (by omega) h m b bl 6 false
 simp only [eB, eC] at j0
 obtain ⟨x, hx, e2⟩ := W8 ns hc 3 (p + 1) (by omega)
 have j5 := hx.1 (by decide)
 have j2 : IntKind.i64.wrap (1 + x) = 1 + x := Zt (by omega) (by omega)
 have e0 := Z91 (show 1 <= D by omega)
 have h0 : Zg (aH D) (hdQ (Zs 0 Yx.code)) ⟨slots [.ptr b 0 0, .ref Z0 qs 0 cs.length cp ex], h, m, m⟩ = some (.norm ⟨upd (slots [.ptr b 0 0, .ref Z0 qs 0 cs.length cp ex]) 4 (.ptr m 0 0), upd h m (cR Zb [Y5i]), m + 1, m⟩) := by
  simp only [Yx, hdQ, Zs, go_sem]
 have h1 : ∃ s H n q5, Zg (aH D) (hdQ (Zs 1 Yx.code)) ⟨upd (slots [.ptr b 0 0, .ref Z0 qs 0 cs.length cp ex]) 4 (.ptr m 0 0), upd h m (cR Zb [Y5i]), m + 1, m⟩ = some (.norm ⟨s, H, n, m⟩) /\ CdI ns b m qs cp ex ow cs h q5 s H n (p + 2) ⟨j3, 1 + x, ⟨0, 0, ⟨#[]⟩⟩⟩ := by
  simp only [Yx, go_sem, e0, j0, e2 D (by omega), j2, hh, B.a]
  refine ⟨_, _, _, m + 6, rfl, ⟨rfl, rfl, rfl, rfl, ?_, ?_, ?_, ?_, by omega, by omega, fun y hy j1 => ?_, dE _⟩⟩
  . simp only [go_sem, B.a]
  . simp only [go_sem, n3, hs, Q.a]
  . simp only [go_sem, B.e']
  . simp only [go_sem, B.k']
  . have Y := Z8 hy
    simp only [go_sem, j1, Y.a]
 obtain ⟨s, H, n, q5, h1, I⟩ := h1
 exact ⟨s, H, n, q5, _, (Xc (C := Yx.code) 0 h0 rfl).trans (Xc 1 h1 rfl), I⟩
set_option maxHeartbeats 4000000 in
theorem Ygj {D : Nat} (hD : 5 <= D) (ns : List Int) (hc : Code ns) (cs : List ColV) (cp : Nat) (ex ow : Bool) (h : Hp) (m b qs q5 : Nat) (hb : b < m) (hqs : qs < m) (hne : ¬ qs = b) (s : Nat -> A) (H : Hp) (n p : Nat) (hp : p + 20 <= 2 ^ 40) (c : CondV) (I : CdI ns b m qs cp ex ow cs h q5 s H n p c) :
 ∃ s' H' n' p' c', Zg (aH D) (hdQ (Zs 2 Yx.code)) ⟨s, H, n, m⟩ = some (.norm ⟨s', H', n', m⟩) /\ p' <= p + 5 /\ CdI ns b m qs cp ex ow cs h q5 s' H' n' p' c' := by
 have i5 := I.m5; have i6 := I.l5
 have B := Z8 (show b < n by omega)
 have Q := Z8 (show qs < n by omega)
 have M := Z8 I.l5
 have n3 := eqF hne
 have n4 := eqF (Ne.symm hne)
 have n7 : (b = q5) = False := eqF (by omega)
 have n8 : (q5 = b) = False := eqF (by omega)
 have n9 : (qs = q5) = False := eqF (by omega)
 have j3 : (q5 = qs) = False := eqF (by omega)
 have lm : (q5 < m) = False := eq_false (by omega)
 have a0 := I.s0; have a1 := I.s1; have a4 := I.s4; have a5 := I.s5; have ab := I.hb; have j1 := I.hs; have ah := I.h5
 by_cases z : (0 : Int) < (cs.length : Int)
 . obtain ⟨x, hx, e2⟩ := W8 ns hc 10 p (by omega)
   by_cases x0 : 0 < x
   . obtain ⟨k', j2, e4⟩ := W8 ns hc (cs.length : Int) (p + 1) (by omega)
     have j4 := j2.1 (by omega)
     obtain ⟨k, rfl⟩ : ∃ k : Nat, k' = (k : Int) := ⟨k'.toNat, by omega⟩
     have hk : k < cs.length := by omega
     have hr := Zu (f := ColV.c) (dP hk)
     generalize cs[k] = cl at *
     obtain ⟨cn, ck, cd, co, cf⟩ := cl
     have k0 := eL k
     have kt := eM k
     obtain ⟨v, p2, g2, G2, hv, j5, e5⟩ := Zdo ns hc ck (p + 2) (by omega)
     obtain ⟨vk, vn, vt⟩ := v
     obtain ⟨j6, j0, cv⟩ := c
     simp only at hv
     by_cases hk0 : vk = 0
     . obtain ⟨y, hy, e6⟩ := W8 ns hc 4 p2 (by omega)
       by_cases y0 : 0 < y
       . simp only [Yx, go_sem, a0, a1, a5, ab, j1, ah, z, x0, hk, hr, k0, kt, hk0, y0, lm, e2 D (by omega), e4 D (by omega), e5 D (by omega), e6 D (by omega), n3, n7, n8, n9, B.a, M.l]
         refine ⟨_, _, _, p2 + 1, ⟨cn, 1, ⟨vk, vn, vt⟩⟩, rfl, by omega, I.next hb hqs hne rfl rfl rfl rfl ?_ ?_ (fun y hy h1 h2 => ?_) (by omega) (by simp only; omega)⟩
         . simp only [go_sem, n7, B.l]
         . simp only [go_sem, hk0, n8, M.l]
         . have Y := Z8 hy
           simp only [go_sem, h1, h2, Y.l]
       . simp only [Yx, go_sem, a0, a1, a5, ab, j1, ah, z, x0, hk, hr, k0, kt, hk0, y0, lm, e2 D (by omega), e4 D (by omega), e5 D (by omega), e6 D (by omega), n3, n7, n8, n9, B.a, M.l]
         refine ⟨_, _, _, p2 + 1, ⟨cn, j0, ⟨vk, vn, vt⟩⟩, rfl, by omega, I.next hb hqs hne rfl rfl rfl rfl ?_ ?_ (fun y hy h1 h2 => ?_) (by omega) (by simp only; omega)⟩
         . simp only [go_sem, n7, B.l]
         . simp only [go_sem, hk0, n8, M.l]
         . have Y := Z8 hy
           simp only [go_sem, h1, h2, Y.l]
     . simp only [Yx, go_sem, a0, a1, a5, ab, j1, ah, z, x0, hk, hr, k0, kt, hk0, lm, e2 D (by omega), e4 D (by omega), e5 D (by omega), n3, n7, n8, n9, B.l, M.l]
       refine ⟨_, _, _, p2, ⟨cn, j0, ⟨vk, vn, vt⟩⟩, rfl, by omega, I.next hb hqs hne rfl rfl rfl rfl ?_ ?_ (fun y hy h1 h2 => ?_) (by omega) (by simp only; omega)⟩
       . simp only [go_sem, n7, B.l]
       . simp only [go_sem, n8, M.l]
       . have Y := Z8 hy
         simp only [go_sem, h1, h2, Y.l]
   . simp only [Yx, go_sem, a0, a1, ab, z, x0, e2 D (by omega), B.l]
     refine ⟨_, _, _, p + 1, c, rfl, by omega, I.next hb hqs hne rfl rfl rfl rfl ?_ ?_ (fun y hy h1 h2 => ?_) (by omega) I.sz⟩
     . simp only [go_sem]
     . simp only [go_sem, n8]; exact ah
     . simp only [go_sem, h1]
 . simp only [Yx, go_sem, a0, a1, z]
   exact ⟨_, _, _, p, c, rfl, by omega, I.next hb hqs hne rfl rfl rfl rfl ab ah (fun y hy h1 h2 => rfl) (dM _) I.sz⟩
set_option maxHeartbeats 4000000 in
theorem Yga {D : Nat} (hD : 5 <= D) (ns : List Int) (hc : Code ns) (cs : List ColV) (cp : Nat) (ex ow : Bool) (h : Hp) (m b qs q5 : Nat) (hb : b < m) (hqs : qs < m) (hne : ¬ qs = b) (s : Nat -> A) (H : Hp) (n p : Nat) (hp : p + 20 <= 2 ^ 40) (c : CondV) (I : CdI ns b m qs cp ex ow cs h q5 s H n p c) :
 ∃ s' H' n' p' c', Zg (aH D) (hdQ (Zs 3 Yx.code)) ⟨s, H, n, m⟩ = some (.norm ⟨s', H', n', m⟩) /\ p' <= p + 6 /\ CdI ns b m qs cp ex ow cs h q5 s' H' n' p' c' := by
 have i5 := I.m5; have i6 := I.l5
 have B := Z8 (show b < n by omega)
 have Q := Z8 (show qs < n by omega)
 have M := Z8 I.l5
 have n3 := eqF hne
 have n4 := eqF (Ne.symm hne)
 have n7 : (b = q5) = False := eqF (by omega)
 have n8 : (q5 = b) = False := eqF (by omega)
 have lm : (q5 < m) = False := eq_false (by omega)
 have a0 := I.s0; have a1 := I.s1; have a4 := I.s4; have a5 := I.s5; have ab := I.hb; have j3 := I.hs; have ah := I.h5
 obtain ⟨j1, j0, cv⟩ := c
 obtain ⟨x, hx, e2⟩ := W8 ns hc 40 p (by omega)
 by_cases x0 : x = 0
 . obtain ⟨y, hy, e3⟩ := Zp7 ns hc Ygh (by decide) (p + 1) (by omega)
   have j2 := fun h m b bl => e3 D (by omega) h m b bl 3 true
   simp only [eB, eC] at j2
   have sz := I.sz
   simp only [Yx, go_sem, a0, a5, ab, ah, x0, e2 D (by omega), j2, n8, B.a, M.e]
   refine ⟨_, _, _, p + 2, ⟨j1, y, cv⟩, rfl, by omega, I.next hb hqs hne rfl rfl rfl rfl ?_ ?_ (fun y hy h1 h2 => ?_) (by omega) sz⟩
   . simp only [go_sem, n7, B.e]
   . simp only [go_sem, n8]
   . have Y := Z8 hy
     simp only [go_sem, h1, h2, Y.e]
 . by_cases x1 : x = 1
   . subst x1
     obtain ⟨v, p2, g2, G2, hv, j4, e3⟩ := Zbn ns hc (p + 1) (by omega)
     simp only [Yx, go_sem, a0, a5, ab, ah, x0, e2 D (by omega), e3 D (by omega), n8, B.l, M.l]
     refine ⟨_, _, _, p2, ⟨j1, j0, v⟩, rfl, by omega, I.next hb hqs hne rfl rfl rfl rfl ?_ ?_ (fun y hy h1 h2 => ?_) (by omega) hv⟩
     . simp only [go_sem, n7, B.l]
     . simp only [go_sem, n8, M.l]
     . have Y := Z8 hy
       simp only [go_sem, h1, h2, Y.l]
   . simp only [Yx, go_sem, a0, ab, x0, x1, e2 D (by omega), B.l]
     refine ⟨_, _, _, p + 1, ⟨j1, j0, cv⟩, rfl, by omega, I.next hb hqs hne rfl rfl rfl rfl ?_ ?_ (fun y hy h1 h2 => ?_) (by omega) I.sz⟩
     . simp only [go_sem]
     . simp only [go_sem, n8]; exact ah
     . simp only [go_sem, h1]
theorem Y3u {D : Nat} (hD : 6 <= D) (ns : List Int) (hc : Code ns) (p : Nat) (hp : p + 40 <= 2 ^ 40) (cs : List ColV) (cp : Nat) (ex ow : Bool) (h : Hp) (m b qs : Nat) (hb : b < m) (hqs : qs < m) (hne : ¬ qs = b) (hh : h b = rdB ns p) (hs : h qs = some ⟨Z0, cs.map ColV.c, ow, false⟩) :
 ∃ c h' n', dcl pr D Z4j [.ptr b 0 0, .ref Z0 qs 0 cs.length cp ex] h m = some ([.agg (c : CondV).c], h', n') /\ c.v.t.size <= 5 /\ Drew ns p 13 b m h n' h' := by
 obtain ⟨D, rfl, hd⟩ := Zd hD
 rw [Zkv]
 obtain ⟨s1, H1, n1, q5, c1, e1, I1⟩ := Yfp (show 3 <= D by omega) ns hc p hp cs cp ex ow h m b qs hb hqs hne hh hs
 obtain ⟨s2, H2, n2, p2, c2, e2, j2, I2⟩ := Ygj (show 5 <= D by omega) ns hc cs cp ex ow h m b qs q5 hb hqs hne s1 H1 n1 (p + 2) (by omega) c1 I1
 obtain ⟨s3, H3, n3, p3, c3, e3, j3, I3⟩ := Yga (show 5 <= D by omega) ns hc cs cp ex ow h m b qs q5 hb hqs hne s2 H2 n2 p2 (by omega) c2 I2
 rw [e1, Xc 2 e2 rfl, Xc 3 e3 rfl]
 have a4 := I3.s4; have a5 := I3.s5; have h4 := I3.h4; have h5 := I3.h5
 have i5 := I3.m5; have i6 := I3.l5
 have ne : (q5 = m) = False := eqF (by omega)
 have j1 : (m = q5) = False := eqF (by omega)
 simp only [Yx, tlQ, Zs, go_sem, a4, a5, h4, h5]
 refine ⟨c3, _, _, rfl, I3.sz, ⟨p3, by omega, ?_⟩, by omega, fun y hy j0 => ?_⟩
 . rw [Z6, if_neg (by omega)]; exact I3.hb
 . rw [Z6, if_neg (by omega)]; exact I3.low y hy j0
end Go.Vm.T
namespace Go.Vm.T
open Go.Proofs
structure Bytes (ns : List Int) : Prop where
 len : ns.length <= maxLen
 b : ∀ n ∈ ns, 0 <= n /\ n <= 255
theorem Bytes.code {ns : List Int} (h : Bytes ns) : Code (ns.take 2000) := ⟨by simp; omega, fun n hn => h.b n (eZ hn)⟩
variable [Pr2]
set_option maxHeartbeats 8000000 in
theorem Zfr {D : Nat} (hD : 16 <= D) (ns : List Int) (hb : Bytes ns) : ∃ t nm v, SmallT t /\ (v : Val).t.size <= big /\ den pr D Ych [.lit W5 (ns.map u8C)] = some [.agg (t : Tab).c, .s nm, .agg v.c] := by
 obtain ⟨D, rfl, hd⟩ := Zd hD
 rw [Yfz]
 have e1 := Zm2 (D := D) (by omega) ns hb.len
 have h0 : ∃ s H, Zg (aH D) (hdQ (Zs 0 Zxz.code)) ⟨slots [.lit W5 (ns.map u8C)], fun _ => none, 0, 0⟩ = some (.norm ⟨s, H, 5, 0⟩) /\ s 0 = .lit W5 (ns.map u8C) /\ s 2 = .ptr 0 0 0 /\ s 4 = .ptr 4 0 0 /\ H 0 = cR Z1 [Ww 1 2 3 false false false] /\ H 4 = cR Z2 [Y24] := by
  simp only [Zxz, hdQ, Zs, go_sem]
  refine ⟨_, _, rfl, ?_, ?_, ?_, ?_, ?_⟩ <;> simp only [go_sem]
 obtain ⟨s0, H0, x0, a0, a2, a4, b0, b4⟩ := h0
 have h1 : ∃ s H, Zg (aH D) (hdQ (Zs 1 Zxz.code)) ⟨s0, H0, 5, 0⟩ = some (.norm ⟨s, H, 7, 0⟩) /\ s 2 = .ptr 0 0 0 /\ s 4 = .ptr 4 0 0 /\ s 5 = .ptr 6 0 0 /\ H 0 = cR Z1 [Ww 1 2 3 false false false] /\ H 4 = cR Z2 [Y24] /\ H 6 = rdB (ns.take 2000) 0 := by
  simp only [Zxz, go_sem, a0, e1]
  refine ⟨_, _, rfl, ?_, ?_, ?_, ?_, ?_, ?_⟩
  . simp only [go_sem, a2]
  . simp only [go_sem, a4]
  . simp only [go_sem]
  . simp only [go_sem, b0]
  . simp only [go_sem, b4]
  . simp only [go_sem]
 obtain ⟨s1, H1, x1, a2, a4, a5, b0, b4, b6⟩ := h1
 obtain ⟨t, y, G, n', nm, p', S⟩ := Zsk (D := D) (by omega) (ns.take 2000) hb.code 0 (by omega) H1 11 6 (by omega) b6
 have sn := S.n; have se := S.e; have sc := S.cl
 have g0 := (S.low 0 (by omega) (by omega)).trans b0
 have g4 := (S.low 4 (by omega) (by omega)).trans b4
 have g6 := S.hb
 have h2 : ∃ s H, Zg (aH D) (hdQ (Zs 2 Zxz.code)) ⟨s1, H1, 7, 0⟩ = some (.norm ⟨s, H, n' + 4, 0⟩) /\ s 2 = .ptr 0 0 0 /\ s 4 = .ptr 4 0 0 /\ s 5 = .ptr 6 0 0 /\ s 6 = .ptr n' 0 0 /\ H n' = cR Z1 [t.c] /\ ∀ v, v < n' -> H v = frz G nm v := by
  simp only [Zxz, go_sem, a5, se, sc, Tab.c]
  refine ⟨_, _, rfl, ?_, ?_, ?_, ?_, ?_, fun v hv => ?_⟩
  . simp only [go_sem, a2]
  . simp only [go_sem, a4]
  . simp only [go_sem, a5]
  . simp only [go_sem]
  . simp only [go_sem]
  . have Y := Z8 hv
    simp only [go_sem, Y.a]
 obtain ⟨s2, H2, x2, a2, a4, a5, a6, cn, j3⟩ := h2
 have sm := S.sm
 have c0 := (j3 0 (by omega)).trans g0
 have c4 := (j3 4 (by omega)).trans g4
 have c6 := (j3 6 (by omega)).trans g6
 have jp := S.p
 clear j3 g0 g4 g6 b0 b4 b6 se sc
 have e3 := Ztc (show 13 <= D by omega) t sm
 have jq := Za ColV.c (Wd t)
 have h3 : ∃ s H, Zg (aH D) (hdQ (Zs 3 Zxz.code)) ⟨s2, H2, n' + 4, 0⟩ = some (.norm ⟨s, H, n' + 5, 0⟩) /\ s 2 = .ptr 0 0 0 /\ s 4 = .ptr 4 0 0 /\ s 5 = .ptr 6 0 0 /\ s 6 = .ptr n' 0 0 /\ s 7 = .ref Z0 (n' + 4) 0 (Wd t).length (Wd t).length false /\ H (n' + 4) = some ⟨Z0, (Wd t).map ColV.c, true, false⟩ /\ ∀ v, v < n' + 4 -> H v = H2 v := by
  simp only [Zxz, go_sem, a6, cn, e3, Z9, dL, dM, if_true]
  refine ⟨_, _, rfl, ?_, ?_, ?_, ?_, ?_, ?_, fun v hv => ?_⟩
  . simp only [go_sem, a2]
  . simp only [go_sem, a4]
  . simp only [go_sem, a5]
  . simp only [go_sem, a6]
  . simp only [go_sem]
  . simp only [go_sem]
  . have Y := Z8 hv
    simp only [go_sem, Y.e]
 obtain ⟨s3, H3, x3, a2, a4, a5, a6, a7, d4, j1⟩ := h3
 have d0 := (j1 0 (by omega)).trans c0
 have dv := (j1 4 (by omega)).trans c4
 have d6 := (j1 6 (by omega)).trans c6
 have dn := (j1 n' (by omega)).trans cn
 clear j1 c0 c4 c6 cn
 have j8 := (((Xc (C := Zxz.code) 0 x0 rfl).trans (Xc 1 x1 rfl)).trans (Xc 2 x2 rfl)).trans (Xc 3 x3 rfl)
 rw [show Zs 0 Zxz.code = Zxz.code from rfl] at j8
 rw [j8]
 have j6 : (0 == n' + 4) = false := dZ.2 (by omega)
 have j7 : (0 == n' + 6) = false := dZ.2 (by omega)
 have jf : (0 == n') = false := dZ.2 (by omega)
 have B := Z8 (show 6 < n' + 5 by omega)
 have j5 := hb.code
 have N := Z8 (show n' < n' + 5 by omega)
 have m6 : (n' = 6) = False := eqF (by omega)
 have ju : (6 = n') = False := eqF (by omega)
 have m0 : (n' = 0) = False := eqF (by omega)
 have jo : (0 = n') = False := eqF (by omega)
 have m4 : (n' = 4) = False := eqF (by omega)
 have jx : (4 = n') = False := eqF (by omega)
 have q6 : (6 = n' + 4) = False := eqF (by omega)
 have q0 : (0 = n' + 4) = False := eqF (by omega)
 have q4 : (4 = n' + 4) = False := eqF (by omega)
 have w6 : (6 = n' + 5) = False := eqF (by omega)
 have w0 : (0 = n' + 5) = False := eqF (by omega)
 have w4 : (4 = n' + 5) = False := eqF (by omega)
 have r0 : (n' + 4 = 0) = False := eqF (by omega)
 have r4 : (n' + 4 = 4) = False := eqF (by omega)
 have r6 : (n' + 4 = 6) = False := eqF (by omega)
 have other : ∀ (s : Nat -> A) (H : Hp) (p0 : Nat), p0 <= 3760 -> s 2 = .ptr 0 0 0 -> s 4 = .ptr 4 0 0 -> s 5 = .ptr 6 0 0 -> s 6 = .ptr n' 0 0 -> H 0 = cR Z1 [Ww 1 2 3 false false false] -> H 4 = cR Z2 [Y24] -> H 6 = rdB (ns.take 2000) p0 -> H n' = cR Z1 [t.c] -> ∃ j2 v, (v : Val).t.size <= big /\ Zc0 (Zg (aH D) (Zs 5 Zxz.code) ⟨s, H, n' + 5, 0⟩) (res Zxz.res) = some [.agg t.c, .s j2, .agg v.c] := fun s H p0 jv a2 a4 a5 a6 c0 c4 c6 cn => by
  obtain ⟨j2, ja, e4⟩ := Zv0 (ns.take 2000) j5 Zg2 (by decide) p0 (by omega)
  have jl := e4 D (by omega) (upd H (n' + 5) (cS Vl (Zg2.map Yaw))) (n' + 6) 6 (n' + 5) 6 false (by omega) (by omega) (by rw [Z6, if_neg (by omega)]; exact c6) (by rw [Vw])
  obtain ⟨v, p2, g2, G2, hv, jr, e5⟩ := Zbn (ns.take 2000) j5 (p0 + 1) (by omega)
  have jb := e5 D (by omega) (upd (upd H (n' + 5) (cS Vl (Zg2.map Yaw))) 6 (rdB (ns.take 2000) (p0 + 1))) (n' + 7) 6 (by omega) (by rw [Vw])
  have k4 := Z85 (aH D) [n'] _ _ _ (n' + 6) jl (fun x hx => by rw [dT.1 hx]; exact (Zoy (show n' ≠ 6 by omega) _ _).symm)
  have k5 := Z85 (aH D) [n'] _ _ _ (n' + 7) jb (fun x hx => by rw [dT.1 hx]; exact ((Zf8 (show n' < n' + 7 by omega) _ _).trans (Zoy (show n' ≠ 6 by omega) _ _)).symm)
  have e0 := Z91 (show 1 <= D by omega)
  have l0 : (0 < n' + 7) = True := eq_true (by omega)
  have l4 : (4 < n' + 7) = True := eq_true (by omega)
  have l6 : (n' < n' + 7) = True := eq_true (by omega)
  refine ⟨j2, v, by unfold big; omega, ?_⟩
  simp only [Zg2, eV, dH, eB, eC] at k4 k5
  simp only [Zxz, tlQ, Zs, go_sem, a2, a4, a5, a6, c0, c4, cn, e0, k4, k5, w0, w4, l0, l4, Tab.c]
 by_cases z : (0 : Int) < ((Wd t).length : Int)
 . by_cases zr : (0 : Int) < (t.rows.length : Int)
   . obtain ⟨x, hx, e4⟩ := W8 (ns.take 2000) j5 6 p' (by omega)
     by_cases x0 : 0 < x
     . have j9 : Xf t = true := by
        cases h : Xf t with
        | true => rfl
        | false => rw [show Wd t = [] by unfold Wd; rw [h]; rfl] at z; simp at z
       have T := Z2z sm j9
       have jj : Wd t = Z7 t := by unfold Wd; rw [if_pos j9]
       obtain ⟨k', je, e5⟩ := W8 (ns.take 2000) j5 ((Wd t).length : Int) (p' + 1) (by omega)
       have jn := je.1 (by omega)
       obtain ⟨k, rfl⟩ : ∃ k : Nat, k' = (k : Int) := ⟨k'.toNat, by omega⟩
       have hk : k < (Wd t).length := by omega
       obtain ⟨j', jh, e6⟩ := W8 (ns.take 2000) j5 (t.rows.length : Int) (p' + 2) (by omega)
       have jw := jh.1 (by omega)
       obtain ⟨j, rfl⟩ : ∃ j : Nat, j' = (j : Int) := ⟨j'.toNat, by omega⟩
       have hj : j < t.rows.length := by omega
       have hr := Zu (f := ColV.c) (dP hk)
       have jd := Zu (f := RowV.c) (dP hj)
       have hn := T.once.rows t.rows[j] (eQ hj)
       have e7 := Zai (show 9 <= D by omega) t sm T.sh t.rows[j] hn
       have ji := Z2u hn
       have j4 : k < (Xv t t.rows[j]).length := by rw [ji, <- jj]; exact hk
       have hv := Zu (f := Val.c) (Z8g j4)
       have jm : ((Xv t t.rows[j]).getD k zV).t.size <= big := (Z57 hn.vals (fun c hc => sm.chg c (eO hc)) : Vk (Xv t t.rows[j])) _ (dU (Z8g j4))
       generalize (Wd t)[k] = cl at *
       generalize hrr : t.rows[j] = r at *
       have js := Za Val.c (Xv t r)
       generalize (Xv t r).getD k zV = u at *
       have jc := e6 D (by omega) (upd (upd H3 6 (rdB (ns.take 2000) (p' + 1))) 6 (rdB (ns.take 2000) (p' + 2))) (n' + 6) 6 (by omega) (by rw [Vw])
       have jg := Z85 (aH D) [n', n' + 4, n' + 4] _ _ _ (n' + 6) jc (fun x hx => by
        have : x = n' \/ x = n' + 4 := by simpa using hx
        exact (Zoy (show x ≠ 6 by omega) _ _).symm)
       have k0 := eL k
       have kt := eM k
       have j0 := eL j
       have jt := eM j
       refine ⟨t, cl.nm, u, sm, jm, ?_⟩
       simp only [Zxz, tlQ, Zs, go_sem, a2, a4, a5, a6, a7, d0, dv, d4, d6, dn, z, zr, x0, e4 D (by omega), e5 D (by omega), jg, e7, hk, hr, jd, hv, j4, k0, kt, j0, jt, j6, j7, m6, m0, r6, B.l, dL, Zj, dM, if_true]
     . have h4 : ∃ s, Zg (aH D) (hdQ (Zs 4 Zxz.code)) ⟨s3, H3, n' + 5, 0⟩ = some (.norm ⟨s, upd H3 6 (rdB (ns.take 2000) (p' + 1)), n' + 5, 0⟩) /\ s 2 = .ptr 0 0 0 /\ s 4 = .ptr 4 0 0 /\ s 5 = .ptr 6 0 0 /\ s 6 = .ptr n' 0 0 := by
        simp only [Zxz, go_sem, a5, a6, a7, d6, dn, z, zr, x0, e4 D (by omega), Tab.c, B.l, dL]
        refine ⟨_, rfl, ?_, ?_, ?_, ?_⟩
        . simp only [go_sem, a2]
        . simp only [go_sem, a4]
        . simp only [go_sem, a5]
        . simp only [go_sem, a6]
       obtain ⟨s4, x4, b2, b4, b5, b6⟩ := h4
       obtain ⟨j2, v, hv, e⟩ := other s4 (upd H3 6 (rdB (ns.take 2000) (p' + 1))) (p' + 1) (by omega) b2 b4 b5 b6 (by rw [Z6, if_neg (by omega)]; exact d0) (by rw [Z6, if_neg (by omega)]; exact dv) (by rw [Vw]) (by rw [Z6, if_neg (by omega)]; exact dn)
       exact ⟨t, j2, v, sm, hv, by rw [Xc 4 x4 rfl]; exact e⟩
   . have h4 : ∃ s, Zg (aH D) (hdQ (Zs 4 Zxz.code)) ⟨s3, H3, n' + 5, 0⟩ = some (.norm ⟨s, H3, n' + 5, 0⟩) /\ s 2 = .ptr 0 0 0 /\ s 4 = .ptr 4 0 0 /\ s 5 = .ptr 6 0 0 /\ s 6 = .ptr n' 0 0 := by
      simp only [Zxz, go_sem, a5, a6, a7, dn, z, zr, Tab.c, dL]
      refine ⟨_, rfl, ?_, ?_, ?_, ?_⟩
      . simp only [go_sem, a2]
      . simp only [go_sem, a4]
      . simp only [go_sem, a5]
      . simp only [go_sem, a6]
     obtain ⟨s4, x4, b2, b4, b5, b6⟩ := h4
     obtain ⟨j2, v, hv, e⟩ := other s4 _ p' (by omega) b2 b4 b5 b6 d0 dv d6 dn
     exact ⟨t, j2, v, sm, hv, by rw [Xc 4 x4 rfl]; exact e⟩
 . have h4 : ∃ s, Zg (aH D) (hdQ (Zs 4 Zxz.code)) ⟨s3, H3, n' + 5, 0⟩ = some (.norm ⟨s, H3, n' + 5, 0⟩) /\ s 2 = .ptr 0 0 0 /\ s 4 = .ptr 4 0 0 /\ s 5 = .ptr 6 0 0 /\ s 6 = .ptr n' 0 0 := by
    simp only [Zxz, go_sem, a5, a6, a7, dn, z, Tab.c, dL]
    refine ⟨_, rfl, ?_, ?_, ?_, ?_⟩
    . simp only [go_sem, a2]
    . simp only [go_sem, a4]
    . simp only [go_sem, a5]
    . simp only [go_sem, a6]
   obtain ⟨s4, x4, b2, b4, b5, b6⟩ := h4
   obtain ⟨j2, v, hv, e⟩ := other s4 _ p' (by omega) b2 b4 b5 b6 d0 dv d6 dn
   exact ⟨t, j2, v, sm, hv, by rw [Xc 4 x4 rfl]; exact e⟩
end Go.Vm.T
namespace Go.Vm.T
open Go.Proofs
variable [Pr2]
abbrev daH (ns : List Int) (t : Tab) (p : Nat) (conds : List CondV) : Hp := upd (upd (upd (upd (upd (upd (upd (fun _ => none) 0 (cR Z1 [Ww 4 5 6 false false false])) 1 (rdB ns p)) 2 (cR Z1 [t.c])) 3 (cS Zb (conds.map CondV.c))) 4 (cS Z0 [])) 5 (cS Z3 [])) 6 (cS Z4 [])
abbrev daS (ns : List Int) (t : Tab) (p : Nat) (conds : List CondV) (ex : Bool) (i : Int) : St := ⟨upd (upd (upd (upd (upd (fun _ => .bad) 2 (.ptr 0 0 0)) 4 (.ptr 1 0 0)) 5 (.ptr 2 0 0)) 6 (cT Zb 3 conds.length ex)) 7 (.n i), daH ns t p conds, 7, 0⟩
theorem Zrw (ns : List Int) (t : Tab) (p : Nat) (conds : List CondV) (ex : Bool) (i : Int) (s : Nat -> A) (H : Hp) (n z b q k c1 c2 c3 : Nat) (hd : [z, b, q, k, c1, c2, c3].Nodup)
 (s2 : s 2 = .ptr z 0 0) (s4 : s 4 = .ptr b 0 0) (s5 : s 5 = .ptr q 0 0) (s6 : s 6 = cT Zb k conds.length ex) (s7 : s 7 = .n i)
 (hz : H z = cR Z1 [Ww c1 c2 c3 false false false]) (hb : H b = rdB ns p) (hq : H q = cR Z1 [t.c]) (hk : H k = cS Zb (conds.map CondV.c))
 (h1 : H c1 = cS Z0 []) (h2 : H c2 = cS Z3 []) (h3 : H c3 = cS Z4 []) :
 Go.Vm.canon [2, 4, 5, 6, 7] ⟨s, H, n, 0⟩ = some (daS ns t p conds ex i) := by
 simp only [List.nodup_cons, eG, fN, or_false, not_or, List.nodup_nil, and_true, not_false_eq_true] at hd
 obtain ⟨⟨d1, d2, d3, d4, d5, d6⟩, ⟨d7, d8, d9, j8, jb⟩, ⟨j0, j5, j1, ja⟩, ⟨j7, j9, j6⟩, ⟨j2, j3⟩, j4⟩ := hd
 simp only [go_sem, s2, s4, s5, s6, s7, hz, hb, hq, hk, h1, h2, h3, Tab.c, d1, d2, d3, d4, d5, d6, d7, d8, d9, j8, jb, j0, j5, j1, ja, j7, j9, j6, j2, j3, j4, Ne.symm d1, Ne.symm d2, Ne.symm d3, Ne.symm d4, Ne.symm d5, Ne.symm d6, Ne.symm d7, Ne.symm d8, Ne.symm d9, Ne.symm j8, Ne.symm jb, Ne.symm j0, Ne.symm j5, Ne.symm j1, Ne.symm ja, Ne.symm j7, Ne.symm j9, Ne.symm j6, Ne.symm j2, Ne.symm j3, Ne.symm j4, eV, dH]
set_option maxHeartbeats 4000000 in
theorem Zb7 {D : Nat} (hD : 14 <= D) (ns : List Int) (hc : Code ns) (t : Tab) (ht : SmallT t) : ∀ (i : Nat) (conds : List CondV) (ex : Bool) (p K : Nat), i < K -> p + 13 * i + 100 <= 2 ^ 29 -> conds.length + i <= 100 -> Z9a conds ->
 ∃ conds' ex' p', conds'.length = conds.length + i /\ Z9a conds' /\ ∃ s', Zc (Zg (aH D) Zeb) [2, 4, 5, 6, 7] K (daS ns t p conds ex (i : Int)) = some (.exit 0 ⟨s', daH ns t p' conds', 7, 0⟩) /\ s' 2 = .ptr 0 0 0 /\ s' 5 = .ptr 2 0 0 /\ s' 6 = cT Zb 3 conds'.length ex'
 | 0, conds, ex, p, K, hK, hp, hl, hs => by
   obtain ⟨K, rfl⟩ : ∃ j, K = j + 1 := ⟨K - 1, by omega⟩
   have z : ¬ (0 : Int) < ((0 : Nat) : Int) := by omega
   refine ⟨conds, ex, p, rfl, hs, ?_⟩
   simp only [Zc, Zzd, Zky, daS, go_sem, z]
   exact ⟨_, rfl, rfl, rfl, rfl⟩
 | i + 1, conds, ex, p, K, hK, hp, hl, hs => by
   obtain ⟨K, rfl⟩ : ∃ j, K = j + 1 := ⟨K - 1, by omega⟩
   have z : (0 : Int) < ((i + 1 : Nat) : Int) := by omega
   have hw : IntKind.i64.wrap (((i + 1 : Nat) : Int) - 1) = (i : Int) := by
    have := Zt (n := ((i + 1 : Nat) : Int) - 1) (by omega) (by omega)
    rw [this]; omega
   have e3 := Ztc (show 13 <= D by omega) t ht
   have j5 := Za ColV.c (Wd t)
   generalize Wd t = cs at *
   obtain ⟨c, H', n', e4, j7, Dr⟩ := Y3u (D := D) (by omega) ns hc p (by omega) cs cs.length false true (upd (daH ns t p conds) 7 (cS Z0 (cs.map ColV.c))) 10 1 7 (by omega) (by omega) (by omega) rfl rfl
   obtain ⟨p', j4, hr⟩ := Dr.at_
   have hn := Dr.n
   have g0 := Dr.low 0 (by omega) (by omega)
   have g2 := Dr.low 2 (by omega) (by omega)
   have g3 := Dr.low 3 (by omega) (by omega)
   have g4 := Dr.low 4 (by omega) (by omega)
   have g5 := Dr.low 5 (by omega) (by omega)
   have g6 := Dr.low 6 (by omega) (by omega)
   simp only [daH, go_sem] at g0 g2 g3 g4 g5 g6
   simp only [daH] at e4
   have j1 : conds.length + 1 <= big := by unfold big; omega
   have j3 := Za CondV.c conds
   have q3 : (3 = n' + 1) = False := eqF (by omega)
   have j6 : (n' + 1 = 3) = False := eqF (by omega)
   have step : ∃ s H, Zg (aH D) Zeb (daS ns t p conds ex ((i + 1 : Nat) : Int)) = some (.norm ⟨s, H, n' + 3, 0⟩) /\ s 2 = .ptr 0 0 0 /\ s 4 = .ptr 1 0 0 /\ s 5 = .ptr 2 0 0 /\ s 6 = .ref Zb (n' + 2) 0 (conds.length + 1) (conds.length + 1) false /\ s 7 = .n (i : Int) /\ H (n' + 2) = some ⟨Zb, conds.map CondV.c ++ [c.c], true, false⟩ /\ ∀ v, v < n' -> ¬ v = 3 -> H v = H' v := by
    simp only [Zzd, Zky, daS, daH, go_sem, z, hw, e3, e4, g3, j1, j3, q3, Z9, dL, dM, if_true]
    refine ⟨_, _, rfl, ?_, ?_, ?_, ?_, ?_, ?_, fun v hv h3 => ?_⟩
    . simp only [go_sem]
    . simp only [go_sem]
    . simp only [go_sem]
    . simp only [go_sem]
    . simp only [go_sem]
    . simp only [go_sem]
    . have Y := Z8 hv
      simp only [go_sem, h3, Y.k]
   obtain ⟨s, H, j2, t2, t4, t5, t6, t7, k1, k2⟩ := step
   have j0 := Zrw ns t p' (conds ++ [c]) false (i : Int) s H (n' + 3) 0 1 2 (n' + 2) 4 5 6 (by simp; omega) t2 t4 t5 (by rw [eA]; exact t6) t7 ((k2 0 (by omega) (by omega)).trans g0) ((k2 1 (by omega) (by omega)).trans hr) ((k2 2 (by omega) (by omega)).trans g2) (by rw [eK]; exact k1) ((k2 4 (by omega) (by omega)).trans g4) ((k2 5 (by omega) (by omega)).trans g5) ((k2 6 (by omega) (by omega)).trans g6)
   obtain ⟨conds', ex', p2, f1, f2, s', f3⟩ := Zb7 hD ns hc t ht i (conds ++ [c]) false p' K (by omega) (by omega) (by simp; omega) (fun x hx => by
    rcases dS.1 hx with hx | hx
    . exact hs x hx
    . rw [dT] at hx; subst hx; unfold big; omega)
   refine ⟨conds', ex', p2, by rw [f1]; simp; omega, f2, s', ?_⟩
   rw [Z6p j2 j0]
   exact f3
set_option maxHeartbeats 8000000 in
theorem Zdb {D : Nat} (hD : 16 <= D) (ns : List Int) (hb : Bytes ns) : ∃ t conds, SmallT t /\ Z9a conds /\ conds.length <= 4 /\ den pr D Zv7 [.lit W5 (ns.map u8C)] = some [.agg (t : Tab).c, .olit Zb (conds.map CondV.c)] := by
 obtain ⟨D, rfl, hd⟩ := Zd hD
 rw [Yes]
 have e1 := Zm2 (D := D) (by omega) ns hb.len
 have h0 : ∃ s H, Zg (aH D) (hdQ (Zs 0 Zme.code)) ⟨slots [.lit W5 (ns.map u8C)], fun _ => none, 0, 0⟩ = some (.norm ⟨s, H, 5, 0⟩) /\ s 0 = .lit W5 (ns.map u8C) /\ s 2 = .ptr 0 0 0 /\ H 0 = cR Z1 [Ww 1 2 3 false false false] /\ H 1 = cS Z0 [] /\ H 2 = cS Z3 [] /\ H 3 = cS Z4 [] := by
  simp only [Zme, hdQ, Zs, go_sem]
  refine ⟨_, _, rfl, ?_, ?_, ?_, ?_, ?_, ?_⟩ <;> simp only [go_sem]
 obtain ⟨s0, H0, x0, a0, a2, b0, b1, b2, b3⟩ := h0
 have h1 : ∃ s H, Zg (aH D) (hdQ (Zs 1 Zme.code)) ⟨s0, H0, 5, 0⟩ = some (.norm ⟨s, H, 7, 0⟩) /\ s 2 = .ptr 0 0 0 /\ s 4 = .ptr 6 0 0 /\ H 6 = rdB (ns.take 2000) 0 /\ ∀ v, v < 5 -> H v = H0 v := by
  simp only [Zme, go_sem, a0, e1]
  refine ⟨_, _, rfl, ?_, ?_, ?_, fun v hv => ?_⟩
  . simp only [go_sem, a2]
  . simp only [go_sem]
  . simp only [go_sem]
  . have y5 : (v = 5) = False := eqF (by omega)
    have y6 : (v = 6) = False := eqF (by omega)
    simp only [go_sem, y5, y6]
 obtain ⟨s1, H1, x1, a2, a4, b6, j6⟩ := h1
 obtain ⟨t, y, G, n', nm, p', S⟩ := Zsk (D := D) (by omega) (ns.take 2000) hb.code 0 (by omega) H1 11 6 (by omega) b6
 have sn := S.n; have se := S.e; have sc := S.cl
 have j5 : ∀ v, v < 5 -> frz G nm v = H0 v := fun v hv => (S.low v (by omega) (by omega)).trans (j6 v hv)
 have g6 := S.hb
 have h2 : ∃ s H, Zg (aH D) (hdQ (Zs 2 Zme.code)) ⟨s1, H1, 7, 0⟩ = some (.norm ⟨s, H, n' + 4, 0⟩) /\ s 2 = .ptr 0 0 0 /\ s 4 = .ptr 6 0 0 /\ s 5 = .ptr n' 0 0 /\ H n' = cR Z1 [t.c] /\ ∀ v, v < n' -> H v = frz G nm v := by
  simp only [Zme, go_sem, a4, se, sc, Tab.c]
  refine ⟨_, _, rfl, ?_, ?_, ?_, ?_, fun v hv => ?_⟩
  . simp only [go_sem, a2]
  . simp only [go_sem, a4]
  . simp only [go_sem]
  . simp only [go_sem]
  . have Y := Z8 hv
    simp only [go_sem, Y.a]
 obtain ⟨s2, H2, x2, a2, a4, a5, cn, j3⟩ := h2
 have sm := S.sm
 have jb := S.p
 have h3 : ∃ s H, Zg (aH D) (hdQ (Zs 3 Zme.code)) ⟨s2, H2, n' + 4, 0⟩ = some (.norm ⟨s, H, n' + 5, 0⟩) /\ s 2 = .ptr 0 0 0 /\ s 4 = .ptr 6 0 0 /\ s 5 = .ptr n' 0 0 /\ s 6 = cT Zb (n' + 4) 0 true /\ H (n' + 4) = cS Zb [] /\ ∀ v, v < n' + 4 -> H v = H2 v := by
  simp only [Zme, go_sem]
  refine ⟨_, _, rfl, ?_, ?_, ?_, ?_, ?_, fun v hv => ?_⟩
  . simp only [go_sem, a2]
  . simp only [go_sem, a4]
  . simp only [go_sem, a5]
  . simp only [go_sem]
  . simp only [go_sem]
  . have Y := Z8 hv
    simp only [go_sem, Y.e]
 obtain ⟨s3, H3, x3, a2, a4, a5, a6, c4, j2⟩ := h3
 have j1 : ∀ v, v < 5 -> H3 v = H0 v := fun v hv => ((j2 v (by omega)).trans (j3 v (by omega))).trans (j5 v hv)
 have d6 := ((j2 6 (by omega)).trans (j3 6 (by omega))).trans g6
 have dn := (j2 n' (by omega)).trans cn
 obtain ⟨i', j8, e4⟩ := Zp7 (ns.take 2000) hb.code [1, 2, 1, 3, 0, 4] (by decide) p' (by omega)
 have jc : 0 <= i' /\ i' <= 4 := by
  have : ∀ x ∈ ([1, 2, 1, 3, 0, 4] : List Int), 0 <= x /\ x <= 4 := by decide
  exact this i' j8
 obtain ⟨i, rfl⟩ : ∃ i : Nat, i' = (i : Int) := ⟨i'.toNat, by omega⟩
 have j7 := fun h m b bl => e4 D (by omega) h m b bl 6 true
 simp only [eB, eC] at j7
 have B := Z8 (show 6 < n' + 5 by omega)
 have h4 : ∃ s H, Zg (aH D) (cLQ (hdQ (Zs 4 Zme.code))) ⟨s3, H3, n' + 5, 0⟩ = some (.norm ⟨s, H, n' + 7, 0⟩) /\ s 2 = .ptr 0 0 0 /\ s 4 = .ptr 6 0 0 /\ s 5 = .ptr n' 0 0 /\ s 6 = cT Zb (n' + 4) 0 true /\ s 7 = .n (i : Int) /\ H 6 = rdB (ns.take 2000) (p' + 1) /\ ∀ v, v < n' + 5 -> ¬ v = 6 -> H v = H3 v := by
  simp only [Zme, hdQ, tlQ, Zs, cLQ, go_sem, a4, d6, j7, B.a]
  refine ⟨_, _, rfl, ?_, ?_, ?_, ?_, ?_, ?_, fun v hv h6 => ?_⟩
  . simp only [go_sem, a2]
  . simp only [go_sem, a4]
  . simp only [go_sem, a5]
  . simp only [go_sem, a6]
  . simp only [go_sem]
  . simp only [go_sem]
  . have Y := Z8 hv
    simp only [go_sem, h6, Y.e]
 obtain ⟨s4, H4, x4, a2, a4, a5, a6, a7, k6, j0⟩ := h4
 have j4 := Zrw (ns.take 2000) t (p' + 1) [] true (i : Int) s4 H4 (n' + 7) 0 6 n' (n' + 4) 1 2 3 (by simp; omega) a2 a4 a5 a6 a7 (((j0 0 (by omega) (by omega)).trans (j1 0 (by omega))).trans b0) k6 ((j0 n' (by omega) (by omega)).trans dn) ((j0 (n' + 4) (by omega) (by omega)).trans c4) (((j0 1 (by omega) (by omega)).trans (j1 1 (by omega))).trans b1) (((j0 2 (by omega) (by omega)).trans (j1 2 (by omega))).trans b2) (((j0 3 (by omega) (by omega)).trans (j1 3 (by omega))).trans b3)
 obtain ⟨conds, ex, p2, f1, f2, s5, lp, t2, t5, t6⟩ := Zb7 (D := D) (by omega) (ns.take 2000) hb.code t sm i [] true (p' + 1) rounds (by unfold rounds; omega) (by omega) (by simp; omega) (fun x hx => nomatch hx)
 have j9 : Zg (aH D) (hdQ (Zs 4 Zme.code)) ⟨s3, H3, n' + 5, 0⟩ = some (.norm ⟨s5, daH (ns.take 2000) t p2 conds, 7, 0⟩) := by
  show Zgc (Zg _ (cLQ (hdQ (Zs 4 Zme.code))) _) (fun O => Zg _ (cRQ (hdQ (Zs 4 Zme.code))) O) = _
  rw [x4]
  show blO 0 (bnd (Go.Vm.canon [2, 4, 5, 6, 7] ⟨s4, H4, n' + 7, 0⟩) (Zc (Zg (aH D) Zeb) [2, 4, 5, 6, 7] rounds)) = _
  rw [j4]
  show blO 0 (Zc _ _ _ _) = _
  rw [lp]
  rfl
 have xx := (((((Xc (C := Zme.code) 0 x0 rfl).trans (Xc 1 x1 rfl)).trans (Xc 2 x2 rfl)).trans (Xc 3 x3 rfl))).trans (Xc 4 j9 rfl)
 rw [show Zs 0 Zme.code = Zme.code from rfl] at xx
 rw [xx]
 refine ⟨t, conds, sm, f2, by simp at f1; omega, ?_⟩
 have ja := Za CondV.c conds
 simp only [Zme, tlQ, Zs, daH, go_sem, t2, t5, t6, ja, Tab.c, dL, dM, if_true]
end Go.Vm.T
namespace Go.Vm.T
variable [Pr0]
theorem Zsn {e : Ent} : ∀ (a b : List Ent) (i : Nat), (∀ x ∈ a, Zfe x e = true) -> (∀ x ∈ b, Zfe x e = false) -> b ≠ [] -> Zz (Y4k e) i () (a ++ b) = .inr (i + a.length)
 | [], b, i, _, hb, hn => by
   cases b with
   | nil => exact absurd rfl hn
   | cons x b => simp [Zz, Y4k, hb x (by simp)]
 | x :: a, b, i, ha, hb, hn => by
   show Zz (Y4k e) i () (x :: (a ++ b)) = _
   unfold Zz Y4k
   simp only [ha x (by simp), cond_true]
   rw [show (fun i (_ : Unit) x => bif Zfe x e then (Sum.inl () : Unit ⊕ Nat) else Sum.inr i) = Y4k e from rfl, Zsn a b (i + 1) (fun y hy => ha y (by simp [hy])) hb hn]
   simp
   omega
end Go.Vm.T
namespace Go.Vm.T
open Go.Proofs
variable [Pr2]
abbrev Yct (a b : RowV) : Prop := a.id < b.id
theorem Zez {t : Tab} {m : Int} : ∀ {rs : List RowV} {i : Nat} {last : Int}, Zz (Zc8 t) i last rs = .inl m -> (∀ r ∈ rs, last < r.id /\ r.id <= t.next - 1 /\ Z5s (Z7 t) (Xv t r) = true) /\ rs.Pairwise Yct
 | [], i, last, _ => ⟨fun r h => (nomatch h), List.Pairwise.nil⟩
 | x :: rs, i, last, hr => by
   unfold Zz Zc8 at hr
   cases hq : inB x.id (last + 1) (t.next - 1) && (inB x.ver 0 t.chg.length && (Z5s ((chgs t.first (t.chg.take x.ver.toNat)).getD []) x.vals && Z5s (Z7 t) (Xv t x))) with
   | false => rw [hq] at hr; cases hr
   | true =>
     rw [hq] at hr
     simp only [dO] at hq
     obtain ⟨h1, _, _, h4⟩ := hq
     have j0 : last + 1 <= x.id /\ x.id <= t.next - 1 := by unfold inB at h1; simpa using h1
     obtain ⟨g1, g2⟩ := Zez (t := t) (rs := rs) hr
     refine ⟨fun r h => ?_, gE.2 ⟨fun r h => (g1 r h).1, g2⟩⟩
     rcases eG.1 h with rfl | h
     . exact ⟨by omega, j0.2, h4⟩
     . have := g1 r h
       exact ⟨by omega, this.2⟩
structure RowP (t : Tab) : Prop where
 ids : t.rows.Pairwise Yct
 lo : ∀ r ∈ t.rows, 1 <= r.id
 hi : ∀ r ∈ t.rows, r.id <= 59
 ok : ∀ r ∈ t.rows, Z5s (Z7 t) (Xv t r) = true
theorem TabOk.rowP {t : Tab} (T : TabOk t) : RowP t := by
 have h := T.rows
 unfold Zdj at h
 split at h
 . rename_i m hm
   obtain ⟨g1, g2⟩ := Zez hm
   have := T.next
   exact ⟨g2, fun r hr => by have := (g1 r hr).1; omega, fun r hr => by have := (g1 r hr).2.1; omega, fun r hr => (g1 r hr).2.2⟩
 . cases h
theorem Zvh {s : List ColV} : ∀ {row : List Val} {i : Nat}, Zz (Zxm s) i () row = .inl () -> ∀ (k : Nat) (v : Val), row[k]? = some v -> rOk s (i + k) v = true
 | [], i, _, k, v, h => by simp at h
 | x :: row, i, hr, k, v, h => by
   unfold Zz Zxm at hr
   cases hx : rOk s i x with
   | false => rw [hx] at hr; cases hr
   | true =>
     rw [hx] at hr
     cases k with
     | zero => simp at h; subst h; exact hx
     | succ k =>
       have := Zvh (s := s) (row := row) (i := i + 1) hr k v (by simpa using h)
       rw [show i + 1 + k = i + (k + 1) by omega] at this
       exact this
theorem Y1s {s : List ColV} {row : List Val} (h : Z5s s row = true) {k : Nat} {v : Val} (hv : row[k]? = some v) : ∃ c, s[k]? = some c /\ Z0i v = true /\ Zjg v c.k = true := by
 unfold Z5s at h
 rw [dO] at h
 have h2 := h.2
 split at h2
 . rename_i u hu
   have := Zvh hu k v hv
   rw [dD] at this
   unfold rOk at this
   cases hc : s[k]? with
   | none => rw [hc] at this; cases this
   | some c =>
     rw [hc] at this
     simp only [dO] at this
     exact ⟨c, rfl, this.1, this.2.1⟩
 . cases h2
theorem Zwf {id : Int} : ∀ {rs : List RowV} {i k : Nat}, Zz (idG id) i () rs = .inr k -> ∃ j r, k = i + j /\ rs[j]? = some r /\ r.id = id
 | [], i, k, h => nomatch h
 | x :: rs, i, k, h => by
   unfold Zz idG at h
   by_cases hx : x.id = id
   . simp only [hx, decide_true, cond_true] at h
     cases h
     exact ⟨0, x, rfl, rfl, hx⟩
   . simp only [hx, decide_false, cond_false] at h
     obtain ⟨j, r, h1, h2, h3⟩ := Zwf (id := id) (rs := rs) (i := i + 1) h
     exact ⟨j + 1, r, by omega, by simpa using h2, h3⟩
theorem Zzm {id : Int} : ∀ {rs : List RowV} {i : Nat} {u : Unit}, Zz (idG id) i () rs = .inl u -> ∀ r ∈ rs, ¬ r.id = id
 | [], i, u, h, r, hr => nomatch hr
 | x :: rs, i, u, h, r, hr => by
   unfold Zz idG at h
   by_cases hx : x.id = id
   . simp only [hx, decide_true, cond_true] at h
     cases h
   . simp only [hx, decide_false, cond_false] at h
     rcases eG.1 hr with rfl | hr
     . exact hx
     . exact Zzm h r hr
theorem Zvw {id : Int} {rs : List RowV} {j : Nat} (h : Zrl id rs = some j) : ∃ r, rs[j]? = some r /\ r.id = id := by
 unfold Zrl at h
 cases hr : Zz (idG id) 0 () rs with
 | inl u => rw [hr] at h; cases h
 | inr k =>
   rw [hr] at h
   cases h
   obtain ⟨j', r, h1, h2, h3⟩ := Zwf hr
   rw [dD] at h1
   subst h1
   exact ⟨r, h2, h3⟩
theorem Y02 {id : Int} {rs : List RowV} (h : Zrl id rs = none) : ∀ r ∈ rs, ¬ r.id = id := by
 unfold Zrl at h
 cases hr : Zz (idG id) 0 () rs with
 | inl u => exact Zzm hr
 | inr k => rw [hr] at h; cases h
theorem Zxf : ∀ {rs : List RowV}, rs.Pairwise Yct -> ∀ {a b : RowV}, a ∈ rs -> b ∈ rs -> a.id = b.id -> a = b
 | [], _, a, b, ha, _, _ => nomatch ha
 | x :: rs, h, a, b, ha, hb, e => by
   obtain ⟨h1, h2⟩ := gE.1 h
   rcases eG.1 ha with rfl | ha
   . rcases eG.1 hb with rfl | hb
     . rfl
     . have : a.id < b.id := h1 b hb
       omega
   . rcases eG.1 hb with hb | hb
     . have : x.id < a.id := h1 a ha
       rw [hb] at e
       omega
     . exact Zxf h2 ha hb e
theorem Y5z {t : Tab} (T : TabOk t) (hok : Xf t = true) {r : RowV} (hr : r ∈ t.rows) : Y9u t r.id = (Xv t r, true) := by
 unfold Y9u
 rw [if_pos hok]
 cases hj : Zrl r.id t.rows with
 | none => exact absurd rfl (Y02 hj r hr)
 | some j =>
   obtain ⟨r', h1, h2⟩ := Zvw hj
   have := Zxf T.rowP.ids (dU h1) hr h2
   subst this
   simp [List.getD, h1]
theorem Y7l {t : Tab} (T : TabOk t) {k : Nat} (hk : k < (Z7 t).length) {r : RowV} (hr : r ∈ t.rows) : (Xv t r)[k]? = some ((Xv t r).getD k zV) := Z8g (by rw [Z2u (T.once.rows r hr)]; exact hk)
theorem Y4p : ∀ {cs xs : List ColV} {i : Nat}, Zz (shG cs) i () xs = .inl () -> ∀ c ∈ xs, Z6w c = true
 | cs, [], i, _, c, h => nomatch h
 | cs, x :: xs, i, hr, c, h => by
   unfold Zz at hr
   cases hx : shG cs i () x with
   | inr u => rw [hx] at hr; cases hr
   | inl u =>
     rw [hx] at hr
     rcases eG.1 h with rfl | h
     . unfold shG at hx
       cases hc : Z6w c with
       | true => rfl
       | false => rw [hc] at hx; simp at hx
     . exact Y4p hr c h
theorem Zqr {cs : List ColV} (h : Zm cs = true) {c : ColV} (hc : c ∈ cs) : Z6w c = true := by
 unfold Zm at h
 rw [dO] at h
 have h1 := h.1
 split at h1
 . rename_i u hu
   exact Y4p hu c hc
 . cases h1
theorem Y66 {cs : List ColV} (h : Zm cs = true) {c : ColV} (hc : c ∈ cs) : ¬ c.k = 0 := by
 have := Zqr h hc
 unfold Z6w at this
 simp only [dO] at this
 have h2 := this.1.1.1.2
 unfold inB at h2
 simp only [dO, eF] at h2
 omega
theorem Ygi {u : Val} (h : Z0i u = true) (hk : u.k = 0) : u = zV := by
 unfold Z0i at h
 simp only [hk, decide_true, cond_true, eN, dO, eF] at h
 obtain ⟨k, n, t⟩ := u
 simp only at hk h
 subst hk
 rw [h.1, h.2]
 rfl
theorem Yf7 {J : Type} {p1 p2 p3 p4 : J -> Bool} : ∀ (l : List J), (∀ x ∈ l, (if p1 x then 1 else 0) + (if p2 x then 1 else 0) + (if p3 x then 1 else 0) + (if p4 x then 1 else 0) = 1) -> (l.filter p1).length + (l.filter p2).length + (l.filter p3).length + (l.filter p4).length = l.length
 | [], _ => rfl
 | x :: l, h => by
   have ih := Yf7 l (fun y hy => h y (by simp [hy]))
   have hx := h x (by simp)
   rw [fA, fA, fA, fA, eB, <- ih]
   cases h1 : p1 x <;> cases h2 : p2 x <;> cases h3 : p3 x <;> cases h4 : p4 x <;> simp [h1, h2, h3, h4] at hx ⊢ <;> omega
theorem Zaw (t : Tab) {nm : ByteArray} {k : Nat} (hk : Z3w nm (Z7 t) = some k) (how : Int) (v : Val) : Z88 t [⟨nm, how, v⟩] = (t.rows.filter fun r => Y2t ⟨nm, how, v⟩ ((Xv t r).getD k zV)).map RowV.id := by
 unfold Z88
 congr 1
 apply gJ
 intro r _
 simp only [List.any_cons, List.any_nil, gT, Bool.not_not]
 unfold Zaf
 rw [show Z3w (⟨nm, how, v⟩ : CondV).nm (Z7 t) = some k from hk]
theorem Y2m {cs : List ColV} {nm : ByteArray} {v : Val} (hs : Zm cs = true) (h : Z1v cs ⟨nm, 2, v⟩ = true) : ¬ v.k = 0 /\ ∀ how, 1 <= how -> how <= 3 -> Z1v cs ⟨nm, how, v⟩ = true := by
 unfold Z1v at h ⊢
 simp only at h ⊢
 cases hk : Z3w nm cs with
 | none => rw [hk] at h; cases h
 | some i =>
   rw [hk] at h
   simp only at h ⊢
   cases hc : cs[i]? with
   | none => rw [hc] at h; cases h
   | some c =>
     rw [hc] at h
     simp only at h ⊢
     have j0 := Y66 hs (dU hc)
     unfold Yce at h ⊢
     simp only [dO, fM, eF] at h ⊢
     have hv : v.k = c.k := by
      rcases h.2 with h2 | h2
      . exact h2
      . have := h2.1; omega
     exact ⟨by omega, fun how h1 h3 => ⟨⟨h.1.1, by unfold inB; simp; omega⟩, .inl hv⟩⟩
theorem Zo5 {t : Tab} (T : TabOk t) (hok : Xf t = true) {nm : ByteArray} {k : Nat} (hk : Z3w nm (Z7 t) = some k) (v : Val) : Z88 t [⟨nm, 1, v⟩] = Zls t nm v := by
 rw [Zaw t hk]
 unfold Zls
 rw [if_pos hok]
 congr 1
 apply gJ
 intro r _
 unfold Y3v Y2t
 rw [hk, if_pos rfl]
theorem Z78 {t : Tab} (T : TabOk t) (hok : Xf t = true) {nm : ByteArray} {k : Nat} (hk : Z3w nm (Z7 t) = some k) {v : Val} (hv : ¬ v.k = 0) :
 (Z88 t [⟨nm, 1, v⟩]).length + (Z88 t [⟨nm, 2, v⟩]).length + (Z88 t [⟨nm, 3, v⟩]).length + (Zls t nm zV).length = t.rows.length := by
 rw [Zaw t hk, Zaw t hk, Zaw t hk, <- Zo5 T hok hk, Zaw t hk]
 simp only [dL]
 refine Yf7 t.rows (fun r hr => ?_)
 have j0 := Y7l T (Z0q hk) hr
 obtain ⟨c, h1, h2, h3⟩ := Y1s (T.rowP.ok r hr) j0
 generalize (Xv t r).getD k zV = u at *
 unfold Y2t
 simp only [if_true, show ¬ (2 : Int) = 1 by decide, show ¬ (3 : Int) = 1 by decide, show ¬ (3 : Int) = 2 by decide, if_false]
 have hz : ¬ v = zV := fun q => hv (by rw [q]; rfl)
 by_cases e1 : u = v
 . subst e1
   have : Ws u u = false := Zd9 u
   simp [this, hz]
 . by_cases e2 : u.k = 0
   . have e3 := Ygi h2 e2
     subst e3
     simp [e1, e2]
   . have e3 : ¬ u = zV := fun q => e2 (by rw [q]; rfl)
     cases h4 : Ws u v with
     | true =>
       have h5 : Ws v u = false := by
        cases h6 : Ws v u with
        | false => rfl
        | true => have := Zka _ _ _ h4 h6; rw [Zd9] at this; cases this
       simp [e1, e2, e3, h5]
     | false =>
       have h5 : Ws v u = true := by
        cases h6 : Ws v u with
        | true => rfl
        | false => exact absurd (Zib _ _ h4 h6) e1
       simp [e1, e2, e3, h5]
theorem Z8z {D : Nat} (hD : 10 <= D) (t : Tab) (ht : SmallT t) (c : CondV) (hc : c.v.t.size <= big) : den pr D Yw [.agg t.c, .lit Zb [c.c]] = some [.olit Zy ((Zo t [c]).map Z1m)] :=
 Zbu hD t ht [c] (by simp [big]) (fun x hx => by rw [dT] at hx; subst hx; exact hc)
theorem Zge {D : Nat} (hD : 12 <= D) (t : Tab) (ht : SmallT t) (c : CondV) (hc : c.v.t.size <= big) : den pr D V9 [.agg t.c, .lit Zb [c.c]] = some [.olit Zy ((Zo t [c]).map Z1m)] :=
 Z7y hD t ht [c] (by simp [big]) (fun x hx => by rw [dT] at hx; subst hx; exact hc)
set_option maxHeartbeats 4000000 in
theorem Zqi {D : Nat} (hD : 17 <= D) (ns : List Int) (hb : Bytes ns) : den pr D Ycf [.lit W5 (ns.map u8C)] = some [.q true] := by
 obtain ⟨D, rfl, hd⟩ := Zd hD
 rw [Yfm]
 by_cases hn : (1048576 : Int) < (ns.length : Int)
 . simp only [Yb7, go_sem, dL, hn]
 . obtain ⟨t, nm, v, ht, hv, e0⟩ := Zfr (show 16 <= D by omega) ns hb
   have e1 := Z8z (show 10 <= D by omega) t ht ⟨nm, 1, v⟩ hv
   have e2 := Zge (show 12 <= D by omega) t ht ⟨nm, 1, v⟩ hv
   have j8 := ht.rlen
   have g1 := Zbg t [⟨nm, 1, v⟩]
   have e3 := Zj9 (show 1 <= D by omega) (Zo t [⟨nm, 1, v⟩]) (by omega)
   have e5 := Z8h (show 10 <= D by omega) t ht
   have j6 := Zes ht
   have e6 := Zbl (show 5 <= D by omega) (Wd t) ⟨nm, 2, v⟩ j6.2 hv
   have q1 := Za Z1m (Zo t [⟨nm, 1, v⟩])
   have qc := Za ColV.c (Wd t)
   cases hco : Wo (Wd t) ⟨nm, 2, v⟩ with
   | false =>
     rw [hco] at e6
     generalize Zo t [⟨nm, 1, v⟩] = l1 at *
     generalize Wd t = cs at *
     simp only [CondV.c] at e1 e2 e6
     simp only [Yb7, go_sem, dL, hn, e0, e1, e2, e3, e5, e6, q1, qc, Z9, Vr, dM, Tab.c, if_true]
   | true =>
     rw [hco] at e6
     have j1 : Xf t = true := by
      cases h : Xf t with
      | true => rfl
      | false =>
        rw [show Wd t = [] by unfold Wd; rw [h]; rfl] at hco
        cases hco
     have T := Z2z ht j1
     have j7 : Wd t = Z7 t := by unfold Wd; rw [if_pos j1]
     rw [j7] at hco
     unfold Wo at hco
     rw [T.shape, eN] at hco
     obtain ⟨j5, j3⟩ := Y2m T.shape hco
     obtain ⟨k, hk⟩ := Zja hco
     have j2 : ∀ how, 1 <= how -> how <= 3 -> Zo t [⟨nm, how, v⟩] = Z88 t [⟨nm, how, v⟩] := fun how h1 h3 => by
      unfold Zo
      rw [if_pos ⟨j1, by simp, by simp [j3 how h1 h3]⟩]
     have j4 := Z78 T j1 hk j5
     rw [<- j2 1 (by decide) (by decide), <- j2 2 (by decide) (by decide), <- j2 3 (by decide) (by decide)] at j4
     have j0 : Zo t [⟨nm, 1, v⟩] = Zls t nm v := (j2 1 (by decide) (by decide)).trans (Zo5 T j1 hk v)
     have e7 := Z8z (show 10 <= D by omega) t ht ⟨nm, 2, v⟩ hv
     have e8 := Z8z (show 10 <= D by omega) t ht ⟨nm, 3, v⟩ hv
     have e9 := Zel (show 10 <= D by omega) t ht nm zV
     have ea := Zel (show 10 <= D by omega) t ht nm v
     rw [<- j0] at ea
     have q2 := Za Z1m (Zo t [⟨nm, 2, v⟩])
     have q3 := Za Z1m (Zo t [⟨nm, 3, v⟩])
     have q4 := Za Z1m (Zls t nm zV)
     have r8 := T.rlen
     clear j0 j2
     generalize Zo t [⟨nm, 1, v⟩] = l1 at *
     generalize Zo t [⟨nm, 2, v⟩] = l2 at *
     generalize Zo t [⟨nm, 3, v⟩] = l3 at *
     generalize Zls t nm zV = l4 at *
     generalize Wd t = cs at *
     have w1 : IntKind.i64.wrap ((l1.length : Int) + (l2.length : Int)) = ((l1.length + l2.length : Nat) : Int) := by rw [Zt (by omega) (by omega)]; omega
     have w2 : IntKind.i64.wrap (((l1.length + l2.length : Nat) : Int) + (l3.length : Int)) = ((l1.length + l2.length + l3.length : Nat) : Int) := by rw [Zt (by omega) (by omega)]; omega
     have w3 : IntKind.i64.wrap (((l1.length + (l2.length + l3.length) : Nat) : Int) + (l4.length : Int)) = (t.rows.length : Int) := by rw [Zt (by omega) (by omega)]; omega
     simp only [CondV.c] at e1 e2 e6 e7 e8
     simp only [zV, Val.c, eT] at e9
     simp only [Yb7, go_sem, dL, hn, e0, e1, e2, e3, e5, e6, e7, e8, e9, ea, q1, q2, q3, q4, qc, w1, w2, w3, Z9, Vr, dM, Tab.c, if_true]
end Go.Vm.T
namespace Go.Vm
theorem Yca (E : Env) (tot d nm ty n : Nat) (gs : List G) (U : St) (sl : Nat) (w : Bool) (xs : List Opd) : Ze E tot (.g sl w (.bsl d nm ty n xs) :: gs) U = bnd (Z03 w (U.s sl)) fun t => bnd (W9 t U (some d) none (bnd (bnd (Z50 (strip U) n xs) fun rows => some ⟨upd (strip U).s d (T.cT ty (U.n + nm) rows.length true), frz (upd U.h (U.n + nm) (some ⟨ty, rows, true, false⟩)) (Wa (strip U) xs), U.n, U.base⟩) (back U (some d)))) (Ze E tot gs) := by
 simp only [Ze, Yt, AOp.yields, AOp.dst, Yc, Yi, Z49, step]; rfl
end Go.Vm
namespace Go.Vm.T
open Go.Proofs
variable [Pr2]
def mnG (x : Int) (_ : Nat) (acc : List Int) (y : Int) : List Int ⊕ Unit := .inl (if decide (x = y) then acc ++ [x] else acc)
theorem Y55 (x : Int) : ∀ (b : List Int) (i : Nat) (acc : List Int), Zz (mnG x) i acc b = .inl (acc ++ b.filter (fun y => decide (x = y)))
 | [], i, acc => by simp [Zz]
 | y :: b, i, acc => by
   unfold Zz
   rw [show mnG x i acc y = .inl (if decide (x = y) then acc ++ [x] else acc) from rfl]
   simp only
   rw [Y55 x b (i + 1)]
   by_cases h : x = y
   . subst h; simp
   . simp [h]
def Yaz (b : List Int) (_ : Nat) (acc : List Int) (x : Int) : List Int ⊕ Unit := .inl (acc ++ b.filter (fun y => decide (x = y)))
theorem Zvv (b : List Int) : ∀ (a : List Int) (i : Nat) (acc : List Int), Zz (Yaz b) i acc a = .inl (acc ++ a.flatMap fun x => b.filter (fun y => decide (x = y)))
 | [], i, acc => by simp [Zz]
 | x :: a, i, acc => by
   unfold Zz
   rw [show Yaz b i acc x = .inl (acc ++ b.filter (fun y => decide (x = y))) from rfl]
   simp only
   rw [Zvv b a (i + 1)]
   simp
abbrev amH (t : Tab) (cd : List CondV) (l a b acc : List Int) : Hp := upd (upd (upd (upd (upd (upd (fun _ => none) 0 (cR Z1 [t.c])) 1 (cS Zb (cd.map CondV.c))) 2 (cS Zy (l.map Z1m))) 3 (cS Zy (a.map Z1m))) 4 (cS Zy (b.map Z1m))) 5 (cS Zy (acc.map Z1m))
abbrev amS (t : Tab) (cd : List CondV) (l a b : List Int) (i : Nat) (acc : List Int) : St := ⟨upd (upd (upd (upd (upd (upd (upd (fun _ => .bad) 5 (.ptr 0 0 0)) 6 (cT Zb 1 cd.length false)) 7 (cT Zy 2 l.length false)) 9 (cT Zy 3 a.length false)) 10 (cT Zy 4 b.length false)) 11 (.ref Zy 5 0 acc.length acc.length (decide (acc.length = 0)))) 12 (.n i), amH t cd l a b acc, 6, 0⟩
abbrev anS (t : Tab) (cd : List CondV) (l a b : List Int) (i : Nat) (k : Nat) (acc : List Int) : St := ⟨upd (upd (upd (upd (upd (upd (upd (upd (fun _ => .bad) 5 (.ptr 0 0 0)) 6 (cT Zb 1 cd.length false)) 7 (cT Zy 2 l.length false)) 9 (cT Zy 3 a.length false)) 10 (cT Zy 4 b.length false)) 11 (.ref Zy 5 0 acc.length acc.length (decide (acc.length = 0)))) 12 (.n i)) 13 (.n k), amH t cd l a b acc, 6, 0⟩
set_option maxHeartbeats 4000000 in
theorem Yda {D : Nat} (t : Tab) (cd : List CondV) (l a b : List Int) (hbl : b.length <= 8) (i : Nat) (x : Int) (hx : a[i]? = some x) (hi8 : i <= 8) (acc : List Int) (ha : acc.length <= 8 * i) :
 Vs (Zc (Zg (aH D) Zyd) [5, 6, 7, 9, 10, 11, 12, 13] rounds (anS t cd l a b i 0 acc)) (List Int) Unit (Zz (mnG x) 0 acc b)
  (fun m o => m.length <= 8 * i + 8 /\ ∃ U', o = .exit 2 U' /\ U'.n = 6 /\ U'.base = 0 /\ U'.s 5 = .ptr 0 0 0 /\ U'.s 6 = cT Zb 1 cd.length false /\ U'.s 7 = cT Zy 2 l.length false /\ U'.s 9 = cT Zy 3 a.length false /\ U'.s 10 = cT Zy 4 b.length false /\ U'.s 11 = .ref Zy 5 0 m.length m.length (decide (m.length = 0)) /\ U'.s 12 = .n i /\ U'.h = amH t cd l a b m) (fun _ o => False) := by
 refine Zw b (fun k acc => anS t cd l a b i k acc) (mnG x) (fun k acc => acc.length <= 8 * i + k) _ _ acc (by omega) (by unfold big; omega) (fun k acc y K hc hlt hI => ?_) (fun acc K hI => ?_)
 . have hr := Zu (f := Z1m) hc
   have j1 := Zu (f := Z1m) hx
   have j0 : i < a.length := (dQ.1 hx).1
   have hw := Zn (n := k) (by omega)
   have j2 : acc.length + 1 <= big := by unfold big; omega
   have j3 := Za Z1m acc
   have em : (acc ++ [x]).map Z1m = acc.map Z1m ++ [Z1m x] := by simp
   have j4 : (acc ++ [x]).length = acc.length + 1 := by simp
   have hz : decide (acc.length + 1 = 0) = false := by simp
   unfold mnG
   rcases pf (x = y) with q | q
   . simp only [anS, amH, Zc, Zx4, Zlf, go_sem, dL, hr, j1, j0, hlt, hw, q, j2, j3, em, j4, hz, dM, if_true, if_false]
     omega
   . simp only [anS, amH, Zc, Zx4, Zlf, go_sem, dL, hr, j1, j0, hlt, hw, q, dM, if_true, if_false]
     omega
 . have hi : ¬ b.length < b.length := by omega
   simp only [anS, amH, Zc, Zx4, Zlf, go_sem, dL, hi]
   exact ⟨_, rfl, by omega, _, rfl, rfl, rfl, rfl, rfl, rfl, rfl, rfl, rfl, rfl, rfl⟩
set_option maxHeartbeats 4000000 in
theorem Y9h {D : Nat} (t : Tab) (cd : List CondV) (l a b : List Int) (hal8 : a.length <= 8) (hbl : b.length <= 8) :
 Vs (Zc (Zg (aH D) Zze) [5, 6, 7, 9, 10, 11, 12] rounds (amS t cd l a b 0 [])) (List Int) Unit (Zz (Yaz b) 0 [] a)
  (fun m o => ∃ U', o = .exit 0 U' /\ U'.n = 6 /\ U'.base = 0 /\ U'.s 5 = .ptr 0 0 0 /\ U'.s 6 = cT Zb 1 cd.length false /\ U'.s 7 = cT Zy 2 l.length false /\ U'.s 11 = .ref Zy 5 0 m.length m.length (decide (m.length = 0)) /\ U'.h = amH t cd l a b m) (fun _ o => False) := by
 refine Zw a (fun i acc => amS t cd l a b i acc) (Yaz b) (fun i acc => acc.length <= 8 * i) _ _ [] (dM _) (by unfold big; omega) (fun i acc x K hc hlt hI => ?_) (fun acc K hI => ?_)
 . have hw := Zn (n := i) (by omega)
   obtain ⟨out, lo, lp⟩ := Yda (D := D) t cd l a b hbl i x hc (by omega) acc hI
   rw [Y55] at lp
   unfold Yaz
   generalize acc ++ b.filter (fun y => decide (x = y)) = m at *
   obtain ⟨hm, U', rfl, l1, l2, l5, l6, l7, l9, j1, l11, j0, lh⟩ := lp
   simp only [anS, amH] at lo
   rw [show ((0 : Nat) : Int) = 0 from rfl] at lo
   simp only [amS, amH, Zc, Y49, Zrk, go_sem, dL, hlt, hw, lo, l1, l2, l5, l6, l7, l9, j1, l11, j0, lh]
   omega
 . have hi : ¬ a.length < a.length := by omega
   simp only [amS, amH, Zc, Y49, Zrk, go_sem, dL, hi]
   exact ⟨_, rfl, _, rfl, rfl, rfl, rfl, rfl, rfl, rfl, rfl⟩
theorem Y4l {p : RowV -> Bool} : ∀ {rs : List RowV}, rs.Pairwise Yct -> ∀ {r : RowV}, r ∈ rs -> ((rs.filter p).map RowV.id).filter (fun y => decide (r.id = y)) = if p r = true then [r.id] else []
 | [], _, r, h => nomatch h
 | x :: rs, hp, r, h => by
   obtain ⟨h1, h2⟩ := gE.1 hp
   by_cases hx : r = x
   . subst hx
     have h0 : ((rs.filter p).map RowV.id).filter (fun y => decide (r.id = y)) = [] := by
      rw [List.filter_eq_nil_iff]
      intro y hy q
      obtain ⟨z, hz, rfl⟩ := List.mem_map.1 hy
      have := h1 z ((List.mem_filter.1 hz).1)
      have e : r.id = z.id := by simpa using q
      omega
     rw [fA]
     cases hpr : p r with
     | true => simp only [if_true, eV, fA, decide_true, h0]
     | false => simp only [eD, if_false, h0]
   . have hr : r ∈ rs := (eG.1 h).resolve_left hx
     have j0 : ¬ r.id = x.id := by have := h1 r hr; omega
     rw [fA]
     have ih := Y4l (p := p) h2 hr
     cases hpx : p x with
     | true => simp only [if_true, eV, fA, j0, decide_false, eD, if_false]; exact ih
     | false => simp only [eD, if_false]; exact ih
theorem Znt {p q : RowV -> Bool} {g : Int -> List Int} : ∀ (l : List RowV), (∀ r ∈ l, g r.id = if q r = true then [r.id] else []) -> ((l.filter p).map RowV.id).flatMap g = (l.filter fun r => p r && q r).map RowV.id
 | [], _ => rfl
 | x :: l, h => by
   have ih := Znt (p := p) l (fun r hr => h r (by simp [hr]))
   have hx := h x (by simp)
   rw [fA, fA]
   cases hp : p x with
   | true =>
     simp only [if_true, eV, List.flatMap_cons, ih, hx, eN]
     cases hq : q x <;> simp
   | false => simp only [eD, if_false, fR, ih]
theorem Zr0 (t : Tab) (c d : CondV) : Z88 t [c, d] = (t.rows.filter fun r => Zaf (Z7 t) (Xv t r) c && Zaf (Z7 t) (Xv t r) d).map RowV.id := by
 unfold Z88
 congr 1
 apply gJ
 intro r _
 simp only [List.any_cons, List.any_nil, gT, Bool.not_or, Bool.not_not]
theorem Zry (t : Tab) (c : CondV) : Z88 t [c] = (t.rows.filter fun r => Zaf (Z7 t) (Xv t r) c).map RowV.id := by
 unfold Z88
 congr 1
 apply gJ
 intro r _
 simp only [List.any_cons, List.any_nil, gT, Bool.not_not]
theorem Y2z {t : Tab} (T : TabOk t) (c d : CondV) : (Z88 t [c]).flatMap (fun x => (Z88 t [d]).filter (fun y => decide (x = y))) = Z88 t [c, d] := by
 rw [Zr0, Zry t c, Zry t d]
 exact Znt t.rows (fun r hr => Y4l T.rowP.ids hr)
theorem Y23 (t : Tab) (c d : CondV) : Z88 t [d, c] = Z88 t [c, d] := by
 rw [Zr0, Zr0]
 congr 1
 apply gJ
 intro r _
 exact Bool.and_comm _ _
theorem Z02 (es : List CondV) : Z0n (es.map CondV.c) = false := Z6u _ (fun _ => rfl) es
set_option maxHeartbeats 8000000 in
theorem Zpx {D : Nat} (hD : 17 <= D) (ns ms : List Int) (hb : Bytes ns) (hm : Bytes ms) : den pr D Ycq [.lit W5 (ns.map u8C), .lit W5 (ms.map u8C)] = some [.q true] := by
 obtain ⟨D, rfl, hd⟩ := Zd hD
 rw [Ygm]
 by_cases hn : (1048576 : Int) < (ns.length : Int)
 . simp only [Y3d, go_sem, dL, hn]
 . by_cases hn2 : (1048576 : Int) < (ms.length : Int)
   . simp only [Y3d, go_sem, dL, hn, hn2]
   . obtain ⟨t, cd, ht, hs, j4, e0⟩ := Zdb (show 16 <= D by omega) ns hb
     have hl : cd.length <= big := by unfold big; omega
     have e1 := Zbu (show 10 <= D by omega) t ht cd hl hs
     have e2 := Z7y (show 12 <= D by omega) t ht cd hl hs
     have j5 := ht.rlen
     have g1 := Zbg t cd
     have e3 := Zj9 (show 1 <= D by omega) (Zo t cd) (by omega)
     have e4 := Z31 (show 11 <= D by omega) t ht
     have q1 := Za Z1m (Zo t cd)
     have qd := Za CondV.c cd
     cases hok : Xf t with
     | false =>
       rw [hok] at e4
       generalize Zo t cd = l1 at *
       simp only [Y3d, go_sem, dL, hn, hn2, e0, e1, e2, e3, e4, q1, qd, Z02, Vr, dM, Tab.c, if_true]
     | true =>
       rw [hok] at e4
       by_cases h2 : cd.length = 2
       . obtain ⟨c, d, rfl⟩ : ∃ c d, cd = [c, d] := by
          match cd, h2 with
          | [c, d], _ => exact ⟨c, d, rfl⟩
         have i1 : (0 : Int) <= 1 := by decide
         have i2 : ((2 : Nat) : Int) = 2 := rfl
         have i3 : (2 : Nat) - 1 = 1 := rfl
         have i5 : (0 : Int) < 2 := by decide
         have i6 : (1 : Int) < 2 := by decide
         have T := Z2z ht hok
         have r8 := T.rlen
         have hc := hs c (by simp)
         have j0 := hs d (by simp)
         have e5 := Z8h (show 10 <= D by omega) t ht
         have j1 := Zes ht
         have e6 := Zbl (show 5 <= D by omega) (Wd t) c j1.2 hc
         have e7 := Zbl (show 5 <= D by omega) (Wd t) d j1.2 j0
         have qc := Za ColV.c (Wd t)
         have ea := Z8z (show 10 <= D by omega) t ht c hc
         have eb := Z8z (show 10 <= D by omega) t ht d j0
         have ga := Zbg t [c]
         have gb := Zbg t [d]
         have qa := Za Z1m (Zo t [c])
         have qb := Za Z1m (Zo t [d])
         have j3 : Wd t = Z7 t := by unfold Wd; rw [if_pos hok]
         have co : ∀ x, Wo (Wd t) x = Z1v (Z7 t) x := fun x => by unfold Wo; rw [j3, T.shape, eN]
         rw [co] at e6 e7
         by_cases hf : Z1v (Z7 t) c = true /\ Z1v (Z7 t) d = true
         . obtain ⟨f1, f2⟩ := hf
           rw [f1] at e6
           rw [f2] at e7
           have k0 : Zo t [c, d] = Z88 t [c, d] := by unfold Zo; rw [if_pos ⟨hok, by simp, by simp [f1, f2]⟩]
           have k1 : Zo t [c] = Z88 t [c] := by unfold Zo; rw [if_pos ⟨hok, by simp, by simp [f1]⟩]
           have k2 : Zo t [d] = Z88 t [d] := by unfold Zo; rw [if_pos ⟨hok, by simp, by simp [f2]⟩]
           have k3 : Zo t [d, c] = Zo t [c, d] := by rw [k0, <- Y23]; unfold Zo; rw [if_pos ⟨hok, by simp, by simp [f1, f2]⟩]
           have ec := Zbu (show 10 <= D by omega) t ht [d, c] (by simp [big]) (fun x hx => by
            rcases eG.1 hx with rfl | hx
            . exact j0
            . rw [dT] at hx; subst hx; exact hc)
           rw [k3] at ec
           obtain ⟨out, lo, lp⟩ := Y9h (D := D) t [c, d] (Zo t [c, d]) (Zo t [c]) (Zo t [d]) (by omega) (by omega)
           rw [Zvv, dF, k1, k2, Y2z T, <- k0, <- k1, <- k2] at lp
           obtain ⟨U', rfl, l1, l2, l5, l6, l7, l11, lh⟩ := lp
           clear k0 k1 k2 k3
           generalize Zo t [c, d] = l at *
           generalize Zo t [c] = a at *
           generalize Zo t [d] = b at *
           generalize Wd t = cs at *
           simp only [amS, amH, eC, dH, decide_true] at lo
           rw [show ((0 : Nat) : Int) = 0 from rfl] at lo
           simp only [eV, dH, eB, eC, CondV.c] at e0 e1 e2 e6 e7 ea eb ec lo l6 lh
           simp only [Y3d, go_sem, Yca, dL, hn, hn2, e0, e1, e2, e3, e4, e5, e6, e7, ea, eb, ec, q1, qa, qb, qc, i1, i2, i3, i5, i6, fX, fZ, gO, Int.toNat_one, fD, fC, eX, dE, lo, l1, l2, l5, l6, l7, l11, lh, Z9, Z02, Vr, dM, Tab.c, if_true]
         . have k0 : Zo t [c, d] = [] := by
            unfold Zo
            rw [if_neg]
            rintro ⟨-, -, q⟩
            simp at q
            exact hf q
           rw [k0] at e1 e2 e3 q1
           generalize Zo t [c] = a at *
           generalize Zo t [d] = b at *
           generalize Wd t = cs at *
           simp only [eV, dH, eB, eC, CondV.c] at e0 e1 e2 e3 e6 e7 ea eb
           cases f1 : Z1v (Z7 t) c with
           | false =>
             rw [f1] at e6
             generalize Z1v (Z7 t) d = fd at e7
             simp only [Y3d, go_sem, dL, hn, hn2, e0, e1, e2, e3, e4, e5, e6, e7, ea, eb, qa, qb, qc, i1, i2, i3, i5, i6, fX, fZ, gO, Int.toNat_one, fD, fC, eX, dE, Z9, Z02, Vr, dM, Tab.c, if_true]
           | true =>
             have f2 : Z1v (Z7 t) d = false := by
              cases q : Z1v (Z7 t) d with
              | false => rfl
              | true => exact absurd ⟨f1, q⟩ hf
             rw [f1] at e6
             rw [f2] at e7
             simp only [Y3d, go_sem, dL, hn, hn2, e0, e1, e2, e3, e4, e5, e6, e7, ea, eb, qa, qb, qc, i1, i2, i3, i5, i6, fX, fZ, gO, Int.toNat_one, fD, fC, eX, dE, Z9, Z02, Vr, dM, Tab.c, if_true]
       . have j2 : ((cd.length : Int) = 2) = False := eq_false (by omega)
         generalize Zo t cd = l1 at *
         simp only [Y3d, go_sem, dL, hn, hn2, j2, e0, e1, e2, e3, e4, q1, qd, Z02, Vr, dM, Tab.c, if_true]
abbrev akH (t : Tab) (cd : List CondV) (l : List Int) (cs : List ColV) : Hp := upd (upd (upd (upd (fun _ => none) 0 (cR Z1 [t.c])) 1 (cS Zb (cd.map CondV.c))) 2 (cS Zy (l.map Z1m))) 3 (cS Z0 (cs.map ColV.c))
abbrev akF (cd : List CondV) (l : List Int) (cs : List ColV) : Nat -> A := upd (upd (upd (upd (fun _ => .bad) 3 (.ptr 0 0 0)) 4 (cT Zb 1 cd.length false)) 5 (cT Zy 2 l.length false)) 6 (cT Z0 3 cs.length false)
abbrev Y78 (t : Tab) (cd : List CondV) (l : List Int) (cs : List ColV) (i : Nat) (ok : Bool) : St := ⟨upd (upd (akF cd l cs) 7 (.q ok)) 8 (.n i), akH t cd l cs, 4, 0⟩
abbrev Y94 (t : Tab) (cd : List CondV) (l : List Int) (cs : List ColV) (i : Nat) (n : Nat) : St := ⟨upd (upd (akF cd l cs) 9 (.n n)) 10 (.n i), akH t cd l cs, 4, 0⟩
abbrev Y8v (t : Tab) (cd : List CondV) (l : List Int) (cs : List ColV) (i n : Nat) (row : List Val) (k : Nat) (has : Bool) : St := ⟨upd (upd (upd (upd (upd (akF cd l cs) 9 (.n n)) 10 (.n i)) 11 (cT Z2 4 row.length false)) 13 (.q has)) 14 (.n k), upd (akH t cd l cs) 4 (cS Z2 (row.map Val.c)), 5, 0⟩
def okG (cs : List ColV) (_ : Nat) (ok : Bool) (c : CondV) : Bool ⊕ Unit := .inl (ok && Wo cs c)
theorem Zv9 (cs : List ColV) : ∀ (l : List CondV) (i : Nat) (b : Bool), Zz (okG cs) i b l = .inl (b && !l.any (fun c => !Wo cs c))
 | [], i, b => by simp [Zz]
 | c :: l, i, b => by
   unfold Zz
   rw [show okG cs i b c = .inl (b && Wo cs c) from rfl]
   simp only
   rw [Zv9 cs l (i + 1)]
   cases b <;> cases h : Wo cs c <;> simp [h]
set_option maxHeartbeats 4000000 in
theorem Y47 {D : Nat} (hD : 5 <= D) (t : Tab) (cd : List CondV) (l : List Int) (cs : List ColV) (hcs : SmallC cs) (hl : cd.length <= 4) (hs : Z9a cd) (ok : Bool) :
 Vs (Zc (Zg (aH D) Zwa) [3, 4, 5, 6, 7, 8] rounds (Y78 t cd l cs 0 ok)) Bool Unit (Zz (okG cs) 0 ok cd)
  (fun b o => ∃ U', o = .exit 0 U' /\ U'.n = 4 /\ U'.base = 0 /\ U'.s 3 = .ptr 0 0 0 /\ U'.s 4 = cT Zb 1 cd.length false /\ U'.s 5 = cT Zy 2 l.length false /\ U'.s 6 = cT Z0 3 cs.length false /\ U'.s 7 = .q b /\ U'.h = akH t cd l cs) (fun _ o => False) := by
 refine Zw cd (fun i ok => Y78 t cd l cs i ok) (okG cs) (fun _ _ => True) _ _ ok trivial (by unfold big; omega) (fun i ok c K hc hlt _ => ?_) (fun ok K _ => ?_)
 . have hx := Zu (f := CondV.c) hc
   have hw := Zn (n := i) (by omega)
   have e1 := Zbl hD cs c hcs (hs c (dU hc))
   have qc := Za ColV.c cs
   unfold okG
   generalize Wo cs c = q at *
   cases ok with
   | true => simp only [Y78, akF, akH, Zc, Zw1, Zld, go_sem, dL, hx, hlt, hw, e1, qc, Z9, dM, if_true]
   | false => simp only [Y78, akF, akH, Zc, Zw1, Zld, go_sem, dL, hx, hlt, hw, e1, qc, Z9, dM, if_true]
 . have hi : ¬ cd.length < cd.length := by omega
   simp only [Y78, akF, akH, Zc, Zw1, Zld, go_sem, dL, hi]
   exact ⟨_, rfl, _, rfl, rfl, rfl, rfl, rfl, rfl, rfl, rfl, rfl⟩
set_option maxHeartbeats 4000000 in
theorem Y9z {D : Nat} (hD : 6 <= D) (t : Tab) (cd : List CondV) (l : List Int) (cs : List ColV) (hcs : SmallC cs) (hl : cd.length <= 4) (hs : Z9a cd) (hco : ∀ c ∈ cd, Wo cs c = true) (i n : Nat) (row : List Val) (hr : row.length = cs.length) :
 Vs (Zc (Zg (aH D) Zw5) [3, 4, 5, 6, 9, 10, 11, 13, 14] rounds (Y8v t cd l cs i n row 0 true)) Bool Unit (Zz (hsG cs row) 0 true cd)
  (fun b o => ∃ U', o = .exit 4 U' /\ U'.n = 5 /\ U'.base = 0 /\ U'.s 3 = .ptr 0 0 0 /\ U'.s 4 = cT Zb 1 cd.length false /\ U'.s 5 = cT Zy 2 l.length false /\ U'.s 6 = cT Z0 3 cs.length false /\ U'.s 9 = .n n /\ U'.s 10 = .n i /\ U'.s 13 = .q b /\ U'.h = upd (akH t cd l cs) 4 (cS Z2 (row.map Val.c))) (fun _ o => False) := by
 have j1 := hcs.len
 refine Zw cd (fun k b => Y8v t cd l cs i n row k b) (hsG cs row) (fun _ _ => True) _ _ true trivial (by unfold big; omega) (fun k b c K hc hlt _ => ?_) (fun b K _ => ?_)
 . have hx := Zu (f := CondV.c) hc
   have hw := Zn (n := k) (by omega)
   have j0 := dU hc
   have e1 := Zvl hD cs c row hcs (hs c j0) (by omega)
   rw [hco c j0, eN, hr, decide_eq_true rfl, eN] at e1
   have qc := Za ColV.c cs
   have qv := Za Val.c row
   unfold hsG
   generalize Zaf cs row c = q at *
   cases b with
   | true => simp only [Y8v, akF, akH, Zc, Zyg, Zlc, go_sem, dL, hx, hlt, hw, e1, qc, qv, Z9, Zj, dM, if_true]
   | false => simp only [Y8v, akF, akH, Zc, Zyg, Zlc, go_sem, dL, hx, hlt, hw, e1, qc, qv, Z9, Zj, dM, if_true]
 . have hi : ¬ cd.length < cd.length := by omega
   simp only [Y8v, akF, akH, Zc, Zyg, Zlc, go_sem, dL, hi]
   exact ⟨_, rfl, _, rfl, rfl, rfl, rfl, rfl, rfl, rfl, rfl, rfl, rfl, rfl⟩
def cnG (P : RowV -> Bool) (_ : Nat) (n : Nat) (r : RowV) : Nat ⊕ Unit := .inl (if P r = true then n + 1 else n)
theorem Y4i (P : RowV -> Bool) : ∀ (l : List RowV) (i n : Nat), Zz (cnG P) i n l = .inl (n + (l.filter P).length)
 | [], i, n => by simp [Zz]
 | r :: l, i, n => by
   unfold Zz
   rw [show cnG P i n r = .inl (if P r = true then n + 1 else n) from rfl]
   simp only
   rw [Y4i P l (i + 1)]
   cases h : P r <;> simp [h] <;> omega
theorem Zra {P : RowV -> Bool} {l : List RowV} {i : Nat} {r : RowV} (h : l[i]? = some r) : (l.take (i + 1)).filter P = (l.take i).filter P ++ (if P r = true then [r] else []) := by
 rw [List.take_add_one, h, List.filter_append]
 congr 1
 simp only [Option.toList_some, fA, List.filter_nil]
theorem Zwi {P : RowV -> Bool} {l : List RowV} {i : Nat} {r : RowV} (h : l[i]? = some r) (hp : P r = true) : ((l.filter P).map RowV.id)[((l.take i).filter P).length]? = some r.id := by
 have hi := (dQ.1 h).1
 have e : l = l.take i ++ r :: l.drop (i + 1) := by
  have := gV i l
  rw [gH hi, (dQ.1 h).2] at this
  exact this.symm
 have e2 : l.filter P = (l.take i).filter P ++ r :: (l.drop (i + 1)).filter P := by
  conv => lhs; rw [e]
  rw [List.filter_append, fA, if_pos hp]
 rw [e2, eK, dW (by simp)]
 simp
set_option maxHeartbeats 4000000 in
theorem Yae {D : Nat} (hD : 10 <= D) (t : Tab) (ht : SmallT t) (hok : Xf t = true) (T : TabOk t) (cd : List CondV) (l : List Int) (hl : cd.length <= 4) (hs : Z9a cd) (hco : ∀ c ∈ cd, Wo (Z7 t) c = true) (P : RowV -> Bool) (hP : ∀ r, P r = !cd.any (fun c => !Zaf (Z7 t) (Xv t r) c)) (hll : l = (t.rows.filter P).map RowV.id) :
 Vs (Zc (Zg (aH D) Zvd) [3, 4, 5, 6, 9, 10] rounds (Y94 t cd l (Z7 t) 0 0)) Nat Unit (Zz (cnG P) 0 0 t.rows)
  (fun n o => ∃ U', o = .exit 2 U' /\ U'.n = 4 /\ U'.base = 0 /\ U'.s 3 = .ptr 0 0 0 /\ U'.s 4 = cT Zb 1 cd.length false /\ U'.s 5 = cT Zy 2 l.length false /\ U'.s 9 = .n n /\ U'.h = akH t cd l (Z7 t)) (fun _ o => False) := by
 have jd := (Yh T.shape).1
 have r8 := T.rlen
 refine Zw t.rows (fun i n => Y94 t cd l (Z7 t) i n) (cnG P) (fun i n => n = ((t.rows.take i).filter P).length) _ _ 0 (by simp) ht.rlen (fun i n r K hc hlt hI => ?_) (fun n K _ => ?_)
 . have hr := Zu (f := RowV.c) hc
   have hw := Zn (n := i) (by omega)
   have j9 := dU hc
   have e1 := Zud (show 10 <= D by omega) t ht r.id
   rw [Y5z T hok j9] at e1
   have j3 := Z2u (T.once.rows r j9)
   obtain ⟨out, lo, lp⟩ := Y9z (D := D) (by omega) t cd l (Z7 t) jd hl hs hco i n (Xv t r) j3
   rw [Zvu, eN, <- hP r] at lp
   obtain ⟨U', rfl, l1, l2, l3, l4, l5, l6, l9, j8, j2, lh⟩ := lp
   simp only [Y8v, akF, akH] at lo
   rw [show ((0 : Nat) : Int) = 0 from rfl] at lo
   have j1 := Zra (P := P) hc
   have j7 := Za Val.c (Xv t r)
   have ja : P r = true -> l[n]? = some r.id := fun q => by rw [hll, hI]; exact Zwi hc q
   have je : n <= i := by
    rw [hI]
    exact eE (List.length_filter_le _ _) (by simp; omega)
   have hw2 := Zn (n := n) (by omega)
   unfold cnG
   generalize Xv t r = row at *
   generalize Z7 t = cs at *
   cases hp : P r with
   | true =>
     rw [hp] at j2 j1
     have j6 := ja hp
     have j3 : n < l.length := (dQ.1 j6).1
     have j4 : ¬ (l.length : Int) <= (n : Int) := by omega
     have jb := Zu (f := Z1m) j6
     obtain ⟨jc, j5, j0⟩ := r
     simp only [Y94, akF, akH, Zc, Zz4, Zmn, go_sem, dL, hr, hlt, hw, hw2, e1, j7, Zj, lo, l1, l2, l3, l4, l5, l6, l9, j8, j2, lh, j3, j4, jb, Tab.c, dM, if_true, if_false]
     rw [j1, eA]
     simp
     omega
   | false =>
     rw [hp] at j2 j1
     obtain ⟨jc, j5, j0⟩ := r
     simp only [Y94, akF, akH, Zc, Zz4, Zmn, go_sem, dL, hr, hlt, hw, hw2, e1, j7, Zj, lo, l1, l2, l3, l4, l5, l6, l9, j8, j2, lh, Tab.c, dM, if_true, if_false]
     rw [j1, eA]
     simp
     omega
 . have hi : ¬ t.rows.length < t.rows.length := by omega
   simp only [Y94, akF, akH, Zc, Zz4, Zmn, go_sem, dL, hi, Tab.c]
   exact ⟨_, rfl, _, rfl, rfl, rfl, rfl, rfl, rfl, rfl, rfl⟩
theorem Zn6 (t : Tab) (c : CondV) (cd : List CondV) : (Z88 t (c :: cd)).length <= (Z88 t cd).length := by
 unfold Z88
 rw [dL, dL]
 have : (t.rows.filter fun r => !(c :: cd).any (fun c => !Zaf (Z7 t) (Xv t r) c)) = (t.rows.filter fun r => !cd.any (fun c => !Zaf (Z7 t) (Xv t r) c)).filter (fun r => Zaf (Z7 t) (Xv t r) c) := by
  rw [List.filter_filter]
  apply gJ
  intro r _
  simp only [List.any_cons, Bool.not_or, Bool.not_not]
 rw [this]
 exact List.length_filter_le _ _
set_option maxHeartbeats 8000000 in
theorem Zup {D : Nat} (hD : 17 <= D) (ns : List Int) (hb : Bytes ns) : den pr D Ycp [.lit W5 (ns.map u8C)] = some [.q true] := by
 obtain ⟨D, rfl, hd⟩ := Zd hD
 rw [Yft]
 by_cases hn : (1048576 : Int) < (ns.length : Int)
 . simp only [Y5h, go_sem, dL, hn]
 . obtain ⟨t, cd, ht, hs, j5, e0⟩ := Zdb (show 16 <= D by omega) ns hb
   have hl : cd.length <= big := by unfold big; omega
   have e1 := Zbu (show 10 <= D by omega) t ht cd hl hs
   have e2 := Z7y (show 12 <= D by omega) t ht cd hl hs
   have ji := ht.rlen
   have g1 := Zbg t cd
   have e3 := Zj9 (show 1 <= D by omega) (Zo t cd) (by omega)
   have e4 := Z31 (show 11 <= D by omega) t ht
   have e5 := Z8h (show 10 <= D by omega) t ht
   have jd := Zes ht
   have q1 := Za Z1m (Zo t cd)
   have qd := Za CondV.c cd
   have qc := Za ColV.c (Wd t)
   have i3 : ((cd.length : Int) <= 3) = (cd.length <= 3) := by rw [eq_iff_iff]; omega
   have bad : ∀ ok, Xf t = true /\ ok = decide (cd.length <= 3) \/ Xf t = false /\ ok = false -> (ok && !cd.any (fun c => !Wo (Wd t) c)) = false -> Zo t cd = [] -> Zc0 (Zg (aH D) Y5h.code ⟨slots [.lit W5 (ns.map u8C)], fun _ => none, 0, 0⟩) (res Y5h.res) = some [.q true] := fun ok ho j9 h0 => by
    obtain ⟨out, lo, lp⟩ := Y47 (D := D) (by omega) t cd (Zo t cd) (Wd t) jd.2 j5 hs ok
    rw [Zv9, j9] at lp
    obtain ⟨U', rfl, l1, l2, l3, l4, l5, l6, l7, lh⟩ := lp
    rw [h0] at lo l5 e1 e2 e3 q1
    generalize Wd t = cs at *
    simp only [Y78, akF, akH, eC, dH] at lo e1 e2 e3
    rw [show ((0 : Nat) : Int) = 0 from rfl] at lo
    simp only [eC] at l5
    rcases ho with ⟨h1, rfl⟩ | ⟨h1, rfl⟩
    . rw [h1] at e4
      simp only [Y5h, go_sem, dL, hn, e0, e1, e2, e3, e4, e5, q1, qd, qc, i3, lo, l1, l2, l5, l7, fX, Z9, Z02, Vr, dM, Tab.c, dH, if_true]
    . rw [h1] at e4
      simp only [Y5h, go_sem, dL, hn, e0, e1, e2, e3, e4, e5, q1, qd, qc, i3, lo, l1, l2, l5, l7, fX, Z9, Z02, Vr, dM, Tab.c, dH, if_true]
   cases hok : Xf t with
   | false => exact bad false (.inr ⟨hok, rfl⟩) rfl (by unfold Zo; rw [if_neg (by rw [hok]; simp)])
   | true =>
     have T := Z2z ht hok
     have j8 : Wd t = Z7 t := by unfold Wd; rw [if_pos hok]
     have co : ∀ x, Wo (Z7 t) x = Z1v (Z7 t) x := fun x => by unfold Wo; rw [T.shape, eN]
     have j4 : (cd.any fun c => !Wo (Z7 t) c) = cd.any fun c => !Z1v (Z7 t) c := by congr 1; funext c; rw [co]
     cases hq : (decide (cd.length <= 3) && !cd.any (fun c => !Wo (Wd t) c)) with
     | false =>
       refine bad _ (.inl ⟨hok, rfl⟩) hq ?_
       unfold Zo
       rw [if_neg]
       rintro ⟨-, h2, h3⟩
       rw [j8, j4, h3] at hq
       simp [h2] at hq
     | true =>
       have ja := hq
       rw [j8, j4] at ja
       simp only [dO, eF, gK] at ja
       obtain ⟨h3, hf⟩ := ja
       have k0 : Zo t cd = Z88 t cd := by unfold Zo; rw [if_pos ⟨hok, h3, hf⟩]
       have jc : ∀ c ∈ cd, Wo (Z7 t) c = true := fun c hc => by
        have := List.any_eq_false.1 hf c hc
        rw [co]
        simpa using this
       obtain ⟨out, lo, lp⟩ := Y47 (D := D) (by omega) t cd (Zo t cd) (Wd t) jd.2 j5 hs (decide (cd.length <= 3))
       rw [Zv9, hq] at lp
       obtain ⟨U', rfl, l1, l2, l3, l4, l5, l6, l7, lh⟩ := lp
       obtain ⟨jg, j0, j6⟩ := Yae (D := D) (by omega) t ht hok T cd (Zo t cd) j5 hs jc (fun r => !cd.any (fun c => !Zaf (Z7 t) (Xv t r) c)) (fun r => rfl) (by rw [k0]; rfl)
       rw [Y4i, dD] at j6
       rw [show (t.rows.filter fun r => !cd.any (fun c => !Zaf (Z7 t) (Xv t r) c)).length = (Zo t cd).length by rw [k0]; unfold Z88; rw [dL]] at j6
       obtain ⟨U2, rfl, m1, m2, m3, m4, m5, m9, mh⟩ := j6
       rw [<- j8] at j0 mh
       rw [hok] at e4
       have j7 : (cd.length <= 3) = True := eq_true h3
       simp only [Y78, akF, akH, j7, decide_true] at lo
       simp only [Y94, akF, akH] at j0
       simp only [akH] at lh mh
       rw [show ((0 : Nat) : Int) = 0 from rfl] at lo j0
       cases cd with
       | nil =>
         have y0 : ((0 : Int) <= 3) = True := eq_true (by decide)
         generalize Zo t [] = l at *
         generalize Wd t = cs at *
         simp only [eC, dH] at e0 e1 e2 lo l4 lh j0 m4 mh i3
         simp only [Y5h, go_sem, dL, hn, e0, e1, e2, e3, e4, e5, q1, qd, qc, i3, lo, l1, l2, l3, l4, l5, l6, l7, lh, j0, m1, m2, m3, m4, m5, m9, mh, j7, y0, fX, Z9, Z02, Vr, dM, Tab.c, dH, if_true]
       | cons c cd' =>
         have je : Z9a cd' := fun x hx => hs x (by simp [hx])
         have jh : (c :: cd').length = cd'.length + 1 := rfl
         have ea := Zbu (show 10 <= D by omega) t ht cd' (by unfold big; omega) je
         have jb : (cd'.any fun c => !Z1v (Z7 t) c) = false := by
          rw [List.any_cons, fB] at hf
          exact hf.2
         have k1 : Zo t cd' = Z88 t cd' := by
          unfold Zo
          rw [if_pos ⟨hok, by omega, jb⟩]
         have y2 : (cd'.length <= 2) = True := eq_true (by omega)
         have jf : ((Zo t (c :: cd')).length : Int) <= ((Zo t cd').length : Int) := by
          have := Zn6 t c cd'
          rw [k0, k1]
          omega
         have qa := Za Z1m (Zo t cd')
         have z1 : ¬ ((cd'.length + 1 : Nat) : Int) = 0 := by omega
         have i1 : (0 : Int) <= 1 := by decide
         have j1 : (1 : Nat) <= cd'.length + 1 := by omega
         have j2 : cd'.length + 1 - 1 = cd'.length := by omega
         have j3 : 1 + cd'.length <= cd'.length + 1 := by omega
         have qe := Za CondV.c cd'
         clear k0 k1 bad jc hf jb hq j4
         generalize Zo t (c :: cd') = l at *
         generalize Zo t cd' = l' at *
         generalize Wd t = cs at *
         simp only [eB, eV] at e0 e1 e2 lo l4 lh j0 m4 mh i3 qd
         simp only [Y5h, go_sem, dL, hn, e0, e1, e2, e3, e4, e5, ea, q1, qd, qc, qa, qe, i3, lo, l1, l2, l3, l4, l5, l6, l7, lh, j0, m1, m2, m3, m4, m5, m9, mh, jf, y2, z1, i1, j1, j2, j3, j7, Int.toNat_one, dE, fD, fC, eX, Z9, Z02, Vr, dM, Tab.c, if_true]
end Go.Vm.T
end
