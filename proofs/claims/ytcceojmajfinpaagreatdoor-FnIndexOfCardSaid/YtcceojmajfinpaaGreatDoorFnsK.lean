/-
  Tables that are drawn, the whole
-/
import Derived.Test.YtcceojmajfinpaaGreatDoorFnsJ
section
set_option linter.unusedVariables false
set_option linter.unusedSimpArgs false
set_option linter.unusedSectionVars false
namespace Go.Vm.T
open Go.Proofs
variable [Pr2]
set_option maxHeartbeats 4000000 in
theorem Zsc {D : Nat} (hD : 11 <= D) (y : List A) (t : Tab) (T : TI t) (ch : Chg) (hch : SmallG ch) (h : Hp) (lo m : Nat) (hlo : lo <= m) (hy : TabG h lo m y t) :
 ∃ y' v h' n', dcl pr D Zz8 [.agg y, .agg ch.c] h m = some ([.agg y', .n v], h', n') /\ TabR lo m h y n' h' y' := by
 obtain ⟨D, rfl, hd⟩ := Zc hD
 rw [Yby]
 have kq := hy
 obtain ⟨a, b, c, ea, eb, ec, rs, bx, rfl, W⟩ := hy
 have h0 : ∃ s H, Zj (aH D) (hdQ (Zs 0 Zbz.code)) ⟨slots [.agg (Zf a b c ea eb ec t), .agg ch.c], h, m, m⟩ = some (.norm ⟨s, H, m + 6, m⟩) /\ s 2 = .ptr m 0 0 /\ s 3 = .ptr (m + 1) 0 0 /\ s 4 = .ptr (m + 2) 0 0 /\ H m = cT Z1 [Zf a b c ea eb ec t] /\ H (m + 1) = cT Z3 [ch.c] /\ H (m + 2) = cT Z1 [Vd (m + 3) (m + 4) (m + 5) false false false] /\ H (m + 3) = cU Z0 [] /\ H (m + 4) = cU Z3 [] /\ H (m + 5) = cU Z4 [] /\ ∀ y, y < m -> H y = h y := by
  simp only [Zbz, hdQ, Zs, go_sem]
  refine ⟨_, _, rfl, ?_, ?_, ?_, ?_, ?_, ?_, ?_, ?_, ?_, fun y hy => ?_⟩
  . simp only [go_sem]
  . simp only [go_sem]
  . simp only [go_sem]
  . simp only [go_sem]
  . simp only [go_sem]
  . simp only [go_sem]
  . simp only [go_sem]
  . simp only [go_sem]
  . simp only [go_sem]
  . have Y := Z8 hy
    simp only [go_sem, Y.a]
 obtain ⟨s0, H0, e0, a0, a1, a2, b0, b1, b2, b4, b5, b6, b3⟩ := h0
 have W0 : TabW H0 lo m a b c rs bx t := W.mono (dO _) (dO _) (fun y k _ h2 h3 _ => by rw [b3 y h2]; exact h3)
 obtain ⟨ns, je⟩ := W0.cl ea eb ec
 have e2 := Z2l (show 9 <= D by omega) t T.small T.shape
 have jd := T.all
 have jq : Zl (Z9 t) = true := by
  unfold Z9
  cases hq : chgs t.first t.chg with
  | none => rw [hq] at jd; cases jd
  | some s' => exact Z0h T.shape hq
 have e3 := Z65 (show 6 <= D by omega) (Z9 t) ch jq hch
 have k3 := Zb ColV.c (Z9 t)
 have h1 : ∀ y : List A, y.length = 4 -> H0 m = cT Z1 [y] -> Z5c (clD H0 4) y = some (t.c, ns) -> ∃ s H, Zj (aH D) (hdQ (Zs 1 Zbz.code)) ⟨s0, H0, m + 6, m⟩ = some (.norm ⟨s, H, m + 8, m⟩) /\ s 2 = .ptr m 0 0 /\ s 3 = .ptr (m + 1) 0 0 /\ s 4 = .ptr (m + 2) 0 0 /\ s 7 = .q (Z72 (Z9 t) ch).2 /\ ∀ y, y < m + 6 -> H y = H0 y := fun y l4 hm je => by
  have jn : y.take 4 = y := dP (by omega)
  simp only [Zbz, go_sem, a0, a1, b1, hm, je, l4, jn, e2, e3, k3, Za, dN, dO]
  refine ⟨_, _, rfl, ?_, ?_, ?_, ?_, fun y hy => ?_⟩
  . simp only [go_sem, a0]
  . simp only [go_sem, a1]
  . simp only [go_sem, a2]
  . simp only [go_sem]
  . have y6 : (y = m + 6) = False := eq_false (by omega)
    have y7 : (y = m + 7) = False := eq_false (by omega)
    simp only [go_sem, y6, y7]
 obtain ⟨s1, H1, e1, c0, c1, c2, c3, g1⟩ := h1 _ rfl b0 je
 have jt := (Xz (C := Zbz.code) 0 e0 rfl).trans (Xz 1 e1 rfl)
 rw [show Zs 0 Zbz.code = Zbz.code from rfl] at jt
 rw [jt]
 have RA := Z8 W.a2
 have RB := Z8 W.b2
 have RC := Z8 W.c2
 have w1 := W.a1; have w2 := W.b1; have w3 := W.c1
 have w4 := W.a2; have w5 := W.b2; have w6 := W.c2
 have jo : H1 m = cT Z1 [Zf a b c ea eb ec t] := by rw [g1 m (by omega)]; exact b0
 have kh : H1 (m + 1) = cT Z3 [ch.c] := by rw [g1 (m + 1) (by omega)]; exact b1
 have k1 : H1 (m + 2) = cT Z1 [Vd (m + 3) (m + 4) (m + 5) false false false] := by rw [g1 (m + 2) (by omega)]; exact b2
 have jb : ∀ v, v < m -> H1 v = h v := fun v hv => by rw [g1 v (by omega)]; exact b3 v hv
 have back : ∀ (s : Nat -> A) (H : Hp) (n p : Nat) (v : Int), s 4 = .ptr p 0 0 -> s 5 = .n v -> H p = cT Z1 [Zf a b c ea eb ec t] -> m <= n -> (∀ y, y < m -> H y = h y) -> ∃ y' v' h' n', Zo9 Zbz.res ⟨s, H, n, m⟩ = some ([.agg y', .n v'], h', n') /\ TabR lo m h (Zf a b c ea eb ec t) n' h' y' := fun s H n p v h4 h5 hp hn hH => by
  refine ⟨Zf a b c ea eb ec t, v, H, n, ?_, ⟨⟨t, ⟨a, b, c, ea, eb, ec, rs, bx, rfl, W.mono (dO _) hn (fun y k _ q2 q3 _ => ?_)⟩, T⟩, hn, fun v hv => .inl hv, fun v hv _ => hH v hv⟩⟩
  . simp only [Zbz, go_sem, h4, h5, hp]
  . rw [hH y q2]; exact q3
 generalize hok : (Z72 (Z9 t) ch).2 = ok at c3
 cases ok with
 | false =>
   have hx : ∃ s, Zj (aH D) (Zs 2 Zbz.code) ⟨s1, H1, m + 8, m⟩ = some (.ret ⟨s, upd H1 (m + 2) (cT Z1 [Zf a b c ea eb ec t]), m + 8, m⟩) /\ s 4 = .ptr (m + 2) 0 0 /\ s 5 = .n 1 := by
    simp only [Zbz, tlQ, Zs, go_sem, c0, c2, c3, jo, k1, RA.k', RB.k', RC.k']
    exact ⟨_, rfl, by simp only [go_sem, c2], by simp only [go_sem]⟩
   obtain ⟨s, hx, x4, x5⟩ := hx
   rw [hx]
   exact back s _ (m + 8) (m + 2) 1 x4 x5 (by rw [Z0l]) (by omega) (fun y hy => by rw [Z7, if_neg (by omega)]; exact jb y hy)
 | true =>
   have T8 := T.chg
   obtain ⟨j6, ja, j7⟩ := T.chgd hch hok T.chg
   have h2 : ∃ s, Zj (aH D) (hdQ (Zs 2 Zbz.code)) ⟨s1, H1, m + 8, m⟩ = some (.norm ⟨s, H1, m + 8, m⟩) /\ s 2 = .ptr m 0 0 /\ s 3 = .ptr (m + 1) 0 0 /\ s 4 = .ptr (m + 2) 0 0 := by
    simp only [Zbz, go_sem, c3]
    exact ⟨_, rfl, by simp only [go_sem, c0], by simp only [go_sem, c1], by simp only [go_sem, c2]⟩
   obtain ⟨s2, e4, c0, c1, c2⟩ := h2
   have k0 : TabG H1 0 (m + 12) (Zf a b c ea eb ec t) t := ⟨a, b, c, ea, eb, ec, rs, bx, rfl, W.mono (dG _) (by omega) (fun y k _ q2 q3 _ => by rw [jb y q2]; exact q3)⟩
   obtain ⟨x, Hx, nx, e5, X, km, j8⟩ := Zq1 (show 1 <= D by omega) (Zf a b c ea eb ec t) t H1 (m + 12) k0 (by have := T.rows; omega) (fun r hr => by have := (T.small.vals r hr).2; omega) (by have := T.small.clen; omega) T.small.glen
   obtain ⟨xa, xb, xc, fa, fb, fc, xs, jf, rfl, X⟩ := X
   have XA := Z8 X.a2
   have XB := Z8 X.b2
   have XC := Z8 X.c2
   have x1 := X.a1; have x2 := X.b1; have x3 := X.c1
   have x4 := X.a2; have x5 := X.b2; have x6 := X.c2
   have M0 := Z8 (show m < nx by omega)
   have M1 := Z8 (show m + 1 < nx by omega)
   have lm : (nx < m) = False := eq_false (by omega)
   have kl : Hx m = cT Z1 [Zf a b c ea eb ec t] := by rw [j8 m (by omega)]; exact jo
   have kf : Hx (m + 1) = cT Z3 [ch.c] := by rw [j8 (m + 1) (by omega)]; exact kh
   have h3 : ∃ s H, Zj (aH D) (hdQ (Zs 3 Zbz.code)) ⟨s2, H1, m + 8, m⟩ = some (.norm ⟨s, H, nx + 4, m⟩) /\ s 2 = .ptr m 0 0 /\ s 3 = .ptr (m + 1) 0 0 /\ s 4 = .ptr (m + 2) 0 0 /\ s 8 = .ptr nx 0 0 /\ H nx = cT Z1 [Zf xa xb xc fa fb fc t] /\ ∀ y, y < nx -> H y = Hx y := by
    simp only [Zbz, go_sem, c0, jo, e5, lm, XA.a, XB.a, XC.a]
    refine ⟨_, _, rfl, ?_, ?_, ?_, ?_, ?_, fun y hy => ?_⟩
    . simp only [go_sem, c0]
    . simp only [go_sem, c1]
    . simp only [go_sem, c2]
    . simp only [go_sem]
    . simp only [go_sem]
    . have Y := Z8 hy
      simp only [go_sem, Y.a]
   obtain ⟨s3, H3, e6, d0, d1, d2, d3, g3, g4⟩ := h3
   have X3 : TabW H3 m nx xa xb xc xs jf t := X.mono (by omega) (dO _) (fun y k _ q2 q3 _ => by rw [g4 y q2]; exact q3)
   have jj : H3 (m + 1) = cT Z3 [ch.c] := by rw [g4 (m + 1) (by omega)]; exact kf
   have k9 := X3.hb
   have k4 := Zb Chg.c t.chg
   have kg : t.chg.length + 1 <= big := by unfold big; omega
   have kp : (m + 1 = xb) = False := eq_false (by omega)
   have kd : (xb = m + 1) = False := eq_false (by omega)
   have h4 : ∃ s H, Zj (aH D) (hdQ (Zs 4 Zbz.code)) ⟨s3, H3, nx + 4, m⟩ = some (.norm ⟨s, H, nx + 6, m⟩) /\ s 2 = .ptr m 0 0 /\ s 4 = .ptr (m + 2) 0 0 /\ s 8 = .ptr nx 0 0 /\ H nx = cT Z1 [[cV Z0 xa t.first.length fa, .ref Z3 (nx + 5) 0 (t.chg.length + 1) (t.chg.length + 1) false, cV Z4 xc t.rows.length fc, .n t.next]] /\ H (nx + 5) = some ⟨Z3, t.chg.map Chg.c ++ [ch.c], true, false⟩ /\ H xb = none /\ ∀ y, y < nx -> ¬ y = xb -> H y = H3 y := by
    simp only [Zbz, go_sem, d1, d3, g3, jj, k9, k4, kg, lm, XB.a, dN, dO]
    refine ⟨_, _, rfl, ?_, ?_, ?_, ?_, ?_, ?_, fun y hy jy => ?_⟩
    . simp only [go_sem, d0]
    . simp only [go_sem, d2]
    . simp only [go_sem, d3]
    . simp only [go_sem]
    . simp only [go_sem]
    . simp only [go_sem, XB.a]
    . have Y := Z8 hy
      simp only [go_sem, jy, Y.a]
   obtain ⟨s4, H4, e7, d0, d2, d3, g5, g6, g7, g8⟩ := h4
   rw [Xz 2 e4 rfl, Xz 3 e6 rfl, Xz 4 e7 rfl]
   have jc : (t.chg ++ [ch]).length = t.chg.length + 1 := by simp
   have k7 : ¬ xa = xb := by rintro rfl; have := X3.ha.symm.trans X3.hb; cases this
   have k2 : ¬ xc = xb := by rintro rfl; have := X3.hc.symm.trans X3.hb; cases this
   have X4 : TabW H4 m (nx + 6) xa (nx + 5) xc xs jf { t with chg := t.chg ++ [ch] } := by
    refine ⟨by rw [g8 xa X.a2 k7]; exact X3.ha, by rw [g6, eO]; rfl, by rw [g8 xc X.c2 k2]; exact X3.hc, X3.bx, X3.rows.mono (dO _) (by omega) (fun y k q1 q2 q3 q4 => ?_), by omega, by omega, by omega, by omega, by omega, by omega⟩
    rw [g8 y q2 (by rintro rfl; have := q3.symm.trans X3.hb; cases this; cases q4)]; exact q3
   have ju : H4 nx = cT Z1 [Zf xa (nx + 5) xc fa false fc { t with chg := t.chg ++ [ch] }] := by rw [g5]; simp only [Zf, jc]
   obtain ⟨k8, jh⟩ := X4.cl fa false fc
   have e8 := Z2l (show 9 <= D by omega) { t with chg := t.chg ++ [ch] } ja T.shape
   have hS : SmallC (Z9 { t with chg := t.chg ++ [ch] }) := by
    unfold Z9
    cases hq : chgs t.first (t.chg ++ [ch]) with
    | none => rw [hq] at j6; cases j6
    | some s' => exact (Z2c ⟨T.small.cols, T.small.clen⟩ hq).1
   generalize hSg : Z9 { t with chg := t.chg ++ [ch] } = S at e8 hS
   have h5 : ∀ y : List A, y.length = 4 -> H4 nx = cT Z1 [y] -> Z5c (clD H4 4) y = some (({ t with chg := t.chg ++ [ch] } : Tab).c, k8) -> ∃ s, Zj (aH D) (hdQ (Zs 5 Zbz.code)) ⟨s4, H4, nx + 6, m⟩ = some (.norm ⟨s, upd H4 (nx + 6) (cU Z0 (S.map ColV.c)), nx + 7, m⟩) /\ s 2 = .ptr m 0 0 /\ s 4 = .ptr (m + 2) 0 0 /\ s 8 = .ptr nx 0 0 /\ s 9 = cV Z0 (nx + 6) S.length false := fun y l4 hm je => by
    have jn : y.take 4 = y := dP (by omega)
    simp only [Zbz, go_sem, d3, hm, je, l4, jn, e8, Za, dN, dO]
    refine ⟨_, rfl, ?_, ?_, ?_, ?_⟩
    . simp only [go_sem, d0]
    . simp only [go_sem, d2]
    . simp only [go_sem, d3]
    . simp only [go_sem]
   obtain ⟨s5, e9, d0, d2, d3, d4⟩ := h5 _ rfl ju jh
   rw [Xz 5 e9 rfl]
   have up : ∀ v, v < nx + 6 -> upd H4 (nx + 6) (cU Z0 (S.map ColV.c)) v = H4 v := fun v hv => by rw [Z7, if_neg (by omega)]
   have jz : ∀ v, v < m + 12 -> ¬ v = xb := fun v hv => by omega
   have j0 : ∀ v, v < m + 6 -> H4 v = H0 v := fun v hv => by rw [g8 v (by omega) (jz v (by omega)), g4 v (by omega), j8 v (by omega), g1 v (by omega)]
   have I0 : ChI h m (Zf a b c ea eb ec t) { t with chg := t.chg ++ [ch] } 0 S 0 (upd s5 10 (.n (0 : Nat))) (upd H4 (nx + 6) (cU Z0 (S.map ColV.c))) (nx + 7) m (m + 2) nx (nx + 6) := by
    refine ⟨by simp only [go_sem, d0], by simp only [go_sem, d2], by simp only [go_sem, d3], ⟨false, by simp only [go_sem, d4]⟩, by simp only [go_sem], by omega, by omega, by omega, by omega, by omega, by omega, by omega, ?_, ⟨Vd (m + 3) (m + 4) (m + 5) false false false, ?_, m + 3, m + 4, m + 5, false, false, false, rfl, fun v hv => ?_⟩, ⟨_, ?_, xa, nx + 5, xc, fa, false, fc, xs, jf, rfl, X4.mono (dO _) (by omega) (fun y k _ q2 q3 _ => by rw [up y q2]; exact q3)⟩, ⟨true, by rw [Z0l]⟩, fun y hy => ?_⟩
    . rw [up m (by omega), j0 m (by omega)]; exact b0
    . rw [up (m + 2) (by omega), j0 (m + 2) (by omega)]; exact b2
    . have : v = m + 3 \/ v = m + 4 \/ v = m + 5 := by simpa using hv
      rcases this with rfl | rfl | rfl
      . exact ⟨by omega, by omega, fun k hk => by rw [up _ (by omega), j0 _ (by omega), b4] at hk; cases hk; rfl⟩
      . exact ⟨by omega, by omega, fun k hk => by rw [up _ (by omega), j0 _ (by omega), b5] at hk; cases hk; rfl⟩
      . exact ⟨by omega, by omega, fun k hk => by rw [up _ (by omega), j0 _ (by omega), b6] at hk; cases hk; rfl⟩
    . rw [up nx (by omega)]; exact ju
    . rw [up y (by omega), j0 y (by omega)]; exact b3 y hy
   have jv : TabG h 0 m (Zf a b c ea eb ec t) t := ⟨a, b, c, ea, eb, ec, rs, bx, rfl, W.mono (dG _) (dO _) (fun y k _ _ q3 _ => q3)⟩
   obtain ⟨q1, q2, q3, q4, kk, jg, I1⟩ := I0.head jv
   have jr : Zj (aH D) (hdQ (Zs 6 Zbz.code)) ⟨s5, upd H4 (nx + 6) (cU Z0 (S.map ColV.c)), nx + 7, m⟩ = blO 0 (bnd (Go.Vm.canon [2, 4, 8, 9, 10] ⟨upd s5 10 (.n (0 : Nat)), upd H4 (nx + 6) (cU Z0 (S.map ColV.c)), nx + 7, m⟩) (Zd (Zj (aH D) Z95) [2, 4, 8, 9, 10] rounds)) := rfl
   rw [jg] at jr
   have ki := T.rows
   rcases Ze8 (show 9 <= D by omega) h m _ { t with chg := t.chg ++ [ch] } t jv ja T.shape j7 T.rows S hS t.rows.length 0 rounds _ _ _ _ _ _ _ (by simp) (by unfold rounds; omega) I1 with ⟨s6, H6, n6, p1, p2, p3, p4, jm, J⟩ | ⟨s6, H6, n6, p2, jm, j1, j2, j3, j4, j5⟩
   . have j9 : Zj (aH D) (hdQ (Zs 6 Zbz.code)) ⟨s5, upd H4 (nx + 6) (cU Z0 (S.map ColV.c)), nx + 7, m⟩ = some (.norm ⟨s6, H6, n6, m⟩) := by
      rw [jr]
      show blO 0 (Zd _ _ _ _) = _
      rw [jm]
      rfl
     rw [Xz 6 j9 rfl]
     obtain ⟨z, hz, Z⟩ := J.h2
     obtain ⟨za, zb, zc, ko, kn, kj, rfl, Z⟩ := Z
     obtain ⟨x', jx, X'⟩ := J.h3
     obtain ⟨ua, ub, uc, ka, kb, kc, us, ux, rfl, U⟩ := X'
     have j1 := J.s1; have j2 := J.s2; have j3 := J.s3
     have l1 := J.l1; have l2 := J.l2; have l3 := J.l3
     have js := J.h1
     have u1 := U.a2; have u2 := U.b2; have u3 := U.c2
     have u4 := U.a1; have u5 := U.b1; have u6 := U.c1
     have ke : (p2 = a) = False := eqF (by omega)
     have k6 : (p2 = b) = False := eqF (by omega)
     have k5 : (p2 = c) = False := eqF (by omega)
     have jw : (p2 < m) = False := eq_false (by omega)
     by_cases r8 : (8 : Int) <= (t.chg.length : Int)
     . have q8 := eq_true r8
       have hx : ∃ s, Zj (aH D) (Zs 7 Zbz.code) ⟨s6, H6, n6, m⟩ = some (.ret ⟨s, upd H6 p2 (cT Z1 [Zf a b c ea eb ec t]), n6, m⟩) /\ s 4 = .ptr p2 0 0 /\ s 5 = .n 4 := by
        simp only [Zbz, tlQ, Zs, go_sem, j1, j2, js, hz, q8, ke, k6, k5, jw]
        exact ⟨_, rfl, by simp only [go_sem, j2], by simp only [go_sem]⟩
       obtain ⟨s, hx, x4, x5⟩ := hx
       rw [hx]
       exact back s _ n6 p2 4 x4 x5 (by rw [Z0l]) (by omega) (fun y hy => by rw [Z7, if_neg (by omega)]; exact J.low y hy)
     . have q8 := eq_false r8
       have jp : (p2 = ua) = False := eqF (by rintro rfl; have := hz.symm.trans U.ha; cases this)
       have jl : (p2 = ub) = False := eqF (by rintro rfl; have := hz.symm.trans U.hb; cases this)
       have ji : (p2 = uc) = False := eqF (by rintro rfl; have := hz.symm.trans U.hc; cases this)
       have hx : ∃ s, Zj (aH D) (Zs 7 Zbz.code) ⟨s6, H6, n6, m⟩ = some (.ret ⟨s, upd H6 p2 (cT Z1 [Zf ua ub uc ka kb kc { t with chg := t.chg ++ [ch] }]), n6, m⟩) /\ s 4 = .ptr p2 0 0 /\ s 5 = .n 0 := by
        simp only [Zbz, tlQ, Zs, go_sem, j1, j2, j3, js, jx, hz, q8, jp, jl, ji, jw]
        exact ⟨_, rfl, by simp only [go_sem, j2], by simp only [go_sem]⟩
       obtain ⟨s, hx, x4, x5⟩ := hx
       rw [hx]
       refine ⟨Zf ua ub uc ka kb kc { t with chg := t.chg ++ [ch] }, 0, upd H6 p2 (cT Z1 [Zf ua ub uc ka kb kc { t with chg := t.chg ++ [ch] }]), n6, ?_, ⟨⟨{ t with chg := t.chg ++ [ch] }, ⟨ua, ub, uc, ka, kb, kc, us, ux, rfl, U.mono (by omega) (dO _) (fun y k _ q2 q3 q4 => ?_)⟩, ⟨ja, T.shape, j6, j7, T.rows, by rw [jc]; omega, T.n1, T.n2⟩⟩, by omega, fun v hv => .inr ?_, fun v hv _ => ?_⟩⟩
       . simp only [Zbz, go_sem, x4, x5]
       . rw [Z7, if_neg (by rintro rfl; rw [hz] at q3; cases q3; exact q4 rfl)]; exact q3
       . have : v = ua \/ v = ub \/ v = uc := by simpa [Zg, Yb, Yk] using hv
         omega
       . rw [Z7, if_neg (by omega)]; exact J.low v hv
   . have j9 : Zj (aH D) (Zs 6 Zbz.code) ⟨s5, upd H4 (nx + 6) (cU Z0 (S.map ColV.c)), nx + 7, m⟩ = some (.ret ⟨s6, H6, n6, m⟩) := by
      show Zh2 (Zj _ (hdQ (Zs 6 Zbz.code)) _) _ = _
      rw [jr]
      show Zh2 (blO 0 (Zd _ _ _ _)) _ = _
      rw [jm]
      rfl
     rw [j9]
     exact back s6 H6 n6 p2 2 j1 j2 j3 j4 j5
end Go.Vm.T
namespace Go.Vm.T
open Go.Proofs
theorem Zuh (E : Env) (N : List Nat) : (chk E N).df = E.df := rfl
theorem Zr3 (E : Env) (N : List Nat) : (chk E N).call = E.call := rfl
theorem TI.len5 {t : Tab} (T : TI t) : (Z9 t).length <= 5 := by
 have j0 := T.all
 unfold Z9
 cases hq : chgs t.first t.chg with
 | none => rw [hq] at j0; cases j0
 | some s' => exact (Z6x (Z0h T.shape hq)).2
variable [Pr2]
theorem Y6c {D : Nat} (hD : 1 <= D) (a b : Int) : den pr D Z5z [.n a, .n b] = some [.n (if b < a then a else b)] := by
 obtain ⟨D, rfl, hd⟩ := Zc hD
 rw [Zmc]
 by_cases h : b < a
 . have q := eq_true h
   simp only [Z5l, go_sem, q]
 . have q := eq_false h
   simp only [Z5l, go_sem, q]
structure ActR (ns : List Int) (p k b lo m : Nat) (h : Hp) (y : List A) (n' : Nat) (h' : Hp) (y' : List A) : Prop where
 rd : ∃ p', p' <= p + k /\ h' b = rdB ns p'
 t : ∃ t', TabG h' lo n' y' t' /\ TI t'
 n : m <= n'
 nm : ∀ v ∈ Zg y', v ∈ Zg y \/ m <= v
 fr : ∀ v, v < m -> ¬ v ∈ Zg y -> ¬ v = b -> h' v = h v
structure AcI (ns : List Int) (b lo m : Nat) (h : Hp) (y : List A) (t : Tab) (s : Nat -> A) (H : Hp) (p : Nat) : Prop where
 s0 : s 0 = .ptr b 0 0
 s3 : s 3 = .ptr m 0 0
 s4 : s 4 = .ptr (m + 1) 0 0
 s5 : s 5 = .ref Z0 (m + 5) 0 (Z9 t).length (Z9 t).length false
 s6 : ∃ id, s 6 = .n id
 hb : H b = rdB ns p
 h0 : H m = cT Z1 [y]
 h1 : H (m + 1) = cT Z1 [Vd (m + 2) (m + 3) (m + 4) false false false]
 h5 : H (m + 5) = some ⟨Z0, (Z9 t).map ColV.c, true, false⟩
 low : ∀ v, v < m -> ¬ v = b -> H v = h v
set_option maxHeartbeats 4000000 in
theorem Yer {D : Nat} (hD : 11 <= D) (ns : List Int) (hc : Code ns) (p : Nat) (hp : p + 300 <= 2 ^ 29) (y : List A) (t : Tab) (T : TI t) (h : Hp) (b lo m : Nat) (hb : b < lo) (hlo : lo <= m) (hrd : h b = rdB ns p) (hy : TabG h lo m y t) :
 ∃ s H, Zj (aH D) Xf.code ⟨slots [.ptr b 0 0, .agg y], h, m, 0⟩ = Zj (aH D) (Zs 3 Xf.code) ⟨s, H, m + 6, 0⟩ /\ AcI ns b lo m h y t s H (p + 1) := by
 obtain ⟨a, b_, c, ea, eb, ec, rs, bx, rfl, W⟩ := hy
 have bm : b < m := by omega
 have B := Z8 bm
 have h0 : ∃ s H, Zj (aH D) (hdQ (Zs 0 Xf.code)) ⟨slots [.ptr b 0 0, .agg (Zf a b_ c ea eb ec t)], h, m, 0⟩ = some (.norm ⟨s, H, m + 5, 0⟩) /\ s 0 = .ptr b 0 0 /\ s 3 = .ptr m 0 0 /\ s 4 = .ptr (m + 1) 0 0 /\ H m = cT Z1 [Zf a b_ c ea eb ec t] /\ H (m + 1) = cT Z1 [Vd (m + 2) (m + 3) (m + 4) false false false] /\ ∀ y, y < m -> H y = h y := by
  simp only [Xf, hdQ, Zs, go_sem]
  refine ⟨_, _, rfl, ?_, ?_, ?_, ?_, ?_, fun y hy => ?_⟩
  . simp only [go_sem]
  . simp only [go_sem]
  . simp only [go_sem]
  . simp only [go_sem]
  . simp only [go_sem]
  . have Y := Z8 hy
    simp only [go_sem, Y.a]
 obtain ⟨s0, H0, e0, a0, a1, a2, b1, b2, b3⟩ := h0
 have W0 : TabW H0 lo m a b_ c rs bx t := W.mono (dO _) (dO _) (fun y k _ h2 h3 _ => by rw [b3 y h2]; exact h3)
 obtain ⟨nms, j2⟩ := W0.cl ea eb ec
 have e2 := Z2l (show 9 <= D by omega) t T.small T.shape
 have h1 : ∀ y : List A, y.length = 4 -> H0 m = cT Z1 [y] -> Z5c (clD H0 4) y = some (t.c, nms) -> ∃ s, Zj (aH D) (hdQ (Zs 1 Xf.code)) ⟨s0, H0, m + 5, 0⟩ = some (.norm ⟨s, upd H0 (m + 5) (some ⟨Z0, (Z9 t).map ColV.c, true, false⟩), m + 6, 0⟩) /\ s 0 = .ptr b 0 0 /\ s 3 = .ptr m 0 0 /\ s 4 = .ptr (m + 1) 0 0 /\ s 5 = .ref Z0 (m + 5) 0 (Z9 t).length (Z9 t).length false := fun y l4 hm j2 => by
  have j7 : y.take 4 = y := dP (by omega)
  simp only [Xf, go_sem, a1, hm, j2, l4, j7, e2, Za, dN, dO]
  refine ⟨_, rfl, ?_, ?_, ?_, ?_⟩
  . simp only [go_sem, a0]
  . simp only [go_sem, a1]
  . simp only [go_sem, a2]
  . simp only [go_sem]
 obtain ⟨s1, e1, c0, c1, c2, c3⟩ := h1 _ rfl b1 j2
 have j1 : H0 b = rdB ns p := by rw [b3 b bm]; exact hrd
 have e3 := Y6c (show 1 <= D by omega) 1 t.next
 have N1 := T.n1; have N2 := T.n2
 have j3 : 1 <= (if t.next < 1 then (1 : Int) else t.next) /\ (if t.next < 1 then (1 : Int) else t.next) <= 60 := by split <;> omega
 generalize (if t.next < 1 then (1 : Int) else t.next) = mx at e3 j3
 obtain ⟨x, hx, e4⟩ := Wv ns hc mx p (by omega)
 have j8 := hx.1 j3.1
 have j6 : IntKind.i64.wrap (x + 1) = x + 1 := wrap_i64 (by omega) (by omega)
 have j5 := e4 D (by omega)
 have h2 : ∃ s, Zj (aH D) (hdQ (Zs 2 Xf.code)) ⟨s1, upd H0 (m + 5) (some ⟨Z0, (Z9 t).map ColV.c, true, false⟩), m + 6, 0⟩ = some (.norm ⟨s, upd (upd H0 (m + 5) (some ⟨Z0, (Z9 t).map ColV.c, true, false⟩)) b (rdB ns (p + 1)), m + 6, 0⟩) /\ s 0 = .ptr b 0 0 /\ s 3 = .ptr m 0 0 /\ s 4 = .ptr (m + 1) 0 0 /\ s 5 = .ref Z0 (m + 5) 0 (Z9 t).length (Z9 t).length false /\ s 6 = .n (x + 1) := by
  simp only [Xf, go_sem, c0, c1, b1, e3, j5, j6, j1, B.a]
  refine ⟨_, rfl, ?_, ?_, ?_, ?_, ?_⟩
  . simp only [go_sem, c0]
  . simp only [go_sem, c1]
  . simp only [go_sem, c2]
  . simp only [go_sem, c3]
  . simp only [go_sem]
 obtain ⟨s2, e5, d0, d1, d2, d3, d4⟩ := h2
 have j0 := ((Xz (C := Xf.code) 0 e0 rfl).trans (Xz 1 e1 rfl)).trans (Xz 2 e5 rfl)
 rw [show Zs 0 Xf.code = Xf.code from rfl] at j0
 rw [j0]
 refine ⟨s2, _, rfl, ⟨d0, d1, d2, d3, ⟨_, d4⟩, by rw [Z0l], ?_, ?_, ?_, fun v hv j4 => ?_⟩⟩
 . rw [Z7, if_neg (by omega), Z7, if_neg (by omega)]; exact b1
 . rw [Z7, if_neg (by omega), Z7, if_neg (by omega)]; exact b2
 . rw [Z7, if_neg (by omega), Z0l]
 . rw [Z7, if_neg j4, Z7, if_neg (by omega)]; exact b3 v hv
end Go.Vm.T
namespace Go.Vm.T
open Go.Proofs
variable [Pr2]
structure AcO (ns : List Int) (b lo m : Nat) (h : Hp) (y : List A) (s : Nat -> A) (H : Hp) (n p : Nat) (y' : List A) : Prop where
 le : m + 6 <= n
 s3 : s 3 = .ptr m 0 0
 s4 : s 4 = .ptr (m + 1) 0 0
 h0 : H m = cT Z1 [y']
 h1 : H (m + 1) = cT Z1 [Vd (m + 2) (m + 3) (m + 4) false false false]
 rd : ∃ p', p' <= p + 140 /\ H b = rdB ns p'
 t : ∃ t', TabG H lo n y' t' /\ TI t'
 nm : ∀ v ∈ Zg y', v ∈ Zg y \/ m + 6 <= v
 fr : ∀ v, v < m -> ¬ v ∈ Zg y -> ¬ v = b -> H v = h v
theorem Zmw {ns : List Int} {b lo m : Nat} {h : Hp} {y : List A} {t : Tab} {s s' : Nat -> A} {H Hc : Hp} {p nc n' : Nat} {h' : Hp} {y1 : List A} (I : AcI ns b lo m h y t s H p) (bl : b < lo) (hlo : lo <= m) (hyn : ∀ v ∈ Zg y, lo <= v /\ v < m) (p' : Nat) (hp' : p' <= p + 140) (hcn : m + 6 <= nc) (hcb : Hc b = rdB ns p') (hcl : ∀ v, v < m + 6 -> ¬ v = b -> Hc v = H v) (R : TabR lo nc Hc y n' h' y1) (t3 : s' 3 = .ptr m 0 0) (t4 : s' 4 = .ptr (m + 1) 0 0) :
 AcO ns b lo m h y s' (upd h' m (cT Z1 [y1])) n' p y1 := by
 have h1 := R.n
 have fr : ∀ v, v < m + 6 -> ¬ v ∈ Zg y -> ¬ v = b -> h' v = H v := fun v hv hn hb => by rw [R.fr v (by omega) hn, hcl v hv hb]
 have my : ∀ v, m <= v -> ¬ v ∈ Zg y := fun v hv hm => by have := (hyn v hm).2; omega
 obtain ⟨t', G, T'⟩ := R.t
 refine ⟨by omega, t3, t4, by rw [Z0l], ?_, ⟨p', hp', ?_⟩, ⟨t', G.mono (dO _) (dO _) (fun v k q1 q2 q3 q4 => ?_), T'⟩, fun v hv => ?_, fun v hv hn hb => ?_⟩
 . rw [Z7, if_neg (by omega), fr (m + 1) (by omega) (my _ (by omega)) (by omega)]; exact I.h1
 . rw [Z7, if_neg (by omega), R.fr b (by omega) (fun hm => by have := (hyn b hm).1; omega)]; exact hcb
 . rw [Z7, if_neg (by
    rintro rfl
    rw [fr v (by omega) (my _ (dO _)) (by omega), I.h0] at q3
    cases q3
    exact q4 rfl)]
   exact q3
 . rcases R.nm v hv with q | q
   . exact .inl q
   . exact .inr (by omega)
 . rw [Z7, if_neg (by omega), fr v (by omega) hn hb]; exact I.low v hv hb
set_option maxHeartbeats 4000000 in
theorem Ydt {D : Nat} (hD : 11 <= D) (ns : List Int) (hc : Code ns) (p : Nat) (hp : p + 300 <= 2 ^ 29) (y : List A) (t : Tab) (T : TI t) (h : Hp) (b lo m : Nat) (hb : b < lo) (hlo : lo <= m) (hy : TabG h lo m y t) (s : Nat -> A) (H : Hp) (I : AcI ns b lo m h y t s H p) :
 ∃ s' H' n' y', Zj (aH D) (hdQ (Zs 3 Xf.code)) ⟨s, H, m + 6, 0⟩ = some (.norm ⟨s', H', n', 0⟩) /\ AcO ns b lo m h y s' H' n' (p + 1) y' := by
 have bm : b < m := by omega
 have B := Z8 bm
 obtain ⟨x, hx, e0⟩ := Wv ns hc 8 p (by omega)
 have k0 := e0 D (by omega)
 have i0 := I.s0; have i3 := I.s3; have i4 := I.s4; have i5 := I.s5; have ib := I.hb
 obtain ⟨id, i6⟩ := I.s6
 have h0 : ∃ s', Zj (aH D) (cLQ (hdQ (Zs 3 Xf.code))) ⟨s, H, m + 6, 0⟩ = some (.norm ⟨s', upd H b (rdB ns (p + 1)), m + 6, 0⟩) /\ s' 16 = .n x /\ s' 0 = .ptr b 0 0 /\ s' 3 = .ptr m 0 0 /\ s' 4 = .ptr (m + 1) 0 0 /\ s' 5 = .ref Z0 (m + 5) 0 (Z9 t).length (Z9 t).length false /\ s' 6 = .n id := by
  simp only [Xf, hdQ, tlQ, Zs, cLQ, go_sem, i0, ib, k0, B.lk]
  exact ⟨_, rfl, by simp only [go_sem], by simp only [go_sem, i0], by simp only [go_sem, i3], by simp only [go_sem, i4], by simp only [go_sem, i5], by simp only [go_sem, i6]⟩
 obtain ⟨s1, e1, jp, j0, j3, j4, j5, j6⟩ := h0
 have I1 : AcI ns b lo m h y t s1 (upd H b (rdB ns (p + 1))) (p + 1) := ⟨j0, j3, j4, j5, ⟨id, j6⟩, by rw [Z0l], by rw [Z7, if_neg (by omega)]; exact I.h0, by rw [Z7, if_neg (by omega)]; exact I.h1, by rw [Z7, if_neg (by omega)]; exact I.h5, fun v hv hn => by rw [Z7, if_neg hn]; exact I.low v hv hn⟩
 have jh : Zj (aH D) (hdQ (Zs 3 Xf.code)) ⟨s, H, m + 6, 0⟩ = Zj (aH D) (cRQ (hdQ (Zs 3 Xf.code))) ⟨s1, upd H b (rdB ns (p + 1)), m + 6, 0⟩ := by
  show Zh2 (Zj _ (cLQ (hdQ (Zs 3 Xf.code))) _) (fun O => Zj _ (cRQ (hdQ (Zs 3 Xf.code))) O) = _
  rw [e1]
  rfl
 rw [jh]
 generalize upd H b (rdB ns (p + 1)) = H1 at *
 have jo : TabG H1 lo (m + 6) y t := hy.mono (dO _) (by omega) (fun v k q1 q2 q3 _ => by rw [I1.low v q2 (by omega)]; exact q3)
 have j2 : ∀ v ∈ Zg y, lo <= v /\ v < m := by
  obtain ⟨a', b', c', ea, eb, ec, rs, bx, rfl, W⟩ := hy
  intro v hv
  have : v = a' \/ v = b' \/ v = c' := by simpa [Zg, Yb, Yk] using hv
  rcases this with rfl | rfl | rfl
  . exact ⟨W.a1, W.a2⟩
  . exact ⟨W.b1, W.b2⟩
  . exact ⟨W.c1, W.c2⟩
 by_cases x0 : x = 0
 . obtain ⟨y1, q, h', n', e2, R⟩ := Y3v (show 2 <= D by omega) y t T id H1 lo (m + 6) (by omega) jo
   have hR := R
   obtain ⟨t1, ⟨a1, b1, c1, jc, jb, jd, rs1, jr, rfl, W1⟩, T1⟩ := hR.t
   have j1 : ∀ v, v ∈ [a1, b1, c1] -> (m = v) = False := fun v hv => eq_false (by
    rintro rfl
    rcases R.nm m (by simpa [Zg, Yb, Yk] using hv) with q | q
    . have := (j2 m q).2; omega
    . omega)
   have n1 := j1 a1 (by simp); have n2 := j1 b1 (by simp); have n3 := j1 c1 (by simp)
   have jy : h' m = cT Z1 [y] := by rw [R.fr m (by omega) (fun hv => by have := (j2 m hv).2; omega)]; exact I1.h0
   obtain ⟨a', b', c', ea, eb, ec, rs, bx, rfl, W⟩ := hy
   have h0 := I1.h0
   have hx : ∃ s', Zj (aH D) (cRQ (hdQ (Zs 3 Xf.code))) ⟨s1, H1, m + 6, 0⟩ = some (.norm ⟨s', upd h' m (cT Z1 [Zf a1 b1 c1 jc jb jd t1]), n', 0⟩) /\ s' 3 = .ptr m 0 0 /\ s' 4 = .ptr (m + 1) 0 0 := by
    simp only [Xf, hdQ, tlQ, Zs, cRQ, go_sem, jp, j3, j6, x0, h0, e2, jy, n1, n2, n3]
    exact ⟨_, rfl, by simp only [go_sem, j3], by simp only [go_sem, j4]⟩
   obtain ⟨s', hx, t3, t4⟩ := hx
   rw [hx]
   exact ⟨s', _, n', _, rfl, Zmw I1 hb hlo j2 (p + 1) (by omega) (dO _) I1.hb (fun v _ _ => rfl) R t3 t4⟩
 . have ji : ∀ h h' : Hp, Shr 0 h h' = True := fun h h' => eq_true (fun b hb => by omega)
   have js := eq_false x0
   by_cases x1 : x = 1
   . subst x1
     obtain ⟨l, q, jn, jm, Hc, nc, jq, jl, e2, hq, jx, jj, Dr⟩ := Ziq (D := D) (by omega) ns hc (p + 1) (by omega) (Z9 t) (by have := T.len5; omega) (Z9 t).length false true H1 (m + 6) b (m + 5) (by omega) (by omega) (by omega) I1.hb I1.h5
     obtain ⟨pc, ju, je⟩ := Dr.at_
     have j9 := Dr.n
     have j8 := Dr.low
     have j7 : Hc m = cT Z1 [y] := by rw [j8 m (by omega) (by omega)]; exact I1.h0
     have jg : TabG Hc lo nc y t := jo.mono (dO _) j9 (fun v k q1 q2 q3 _ => by rw [j8 v q2 (by omega)]; exact q3)
     obtain ⟨y1, q, h', n', e3, R⟩ := Zvd (show 11 <= D by omega) y t T id l jq jl Hc lo nc q jn jm (by omega) jg jj hq
     have hR := R
     obtain ⟨t1, ⟨a1, b1, c1, jc, jb, jd, rs1, jr, rfl, W1⟩, T1⟩ := hR.t
     have j1 : ∀ v, v ∈ [a1, b1, c1] -> (m = v) = False := fun v hv => eq_false (by
      rintro rfl
      rcases R.nm m (by simpa [Zg, Yb, Yk] using hv) with q | q
      . have := (j2 m q).2; omega
      . omega)
     have n1 := j1 a1 (by simp)
     have n2 := j1 b1 (by simp)
     have n3 := j1 c1 (by simp)
     have ja : h' m = cT Z1 [y] := by rw [R.fr m (by omega) (fun hv => by have := (j2 m hv).2; omega)]; exact j7
     obtain ⟨a', b', c', ea, eb, ec, rs, bx, rfl, W⟩ := hy
     have h0 := I1.h0
     have k1 : Z28 [m] H1 Hc := fun x hx => by rw [dX.1 hx]; exact h0.trans j7.symm
     have k2 : Z28 [m] Hc h' := fun x hx => by rw [dX.1 hx]; exact j7.trans ja.symm
     have jf := Zab (aH D) [m] _ _ H1 (m + 6) e2 k1
     have hx : ∃ s', Zj (aH D) (cRQ (hdQ (Zs 3 Xf.code))) ⟨s1, H1, m + 6, 0⟩ = some (.norm ⟨s', upd h' m (cT Z1 [Zf a1 b1 c1 jc jb jd t1]), n', 0⟩) /\ s' 3 = .ptr m 0 0 /\ s' 4 = .ptr (m + 1) 0 0 := by
      simp only [Xf, hdQ, tlQ, Zs, cRQ, go_sem, jp, j0, j3, j5, j6, js, h0, jf, e3, Zuh, Zfh, ji, ja, n1, n2, n3]
      exact ⟨_, rfl, by simp only [go_sem, j3], by simp only [go_sem, j4]⟩
     obtain ⟨s', hx, t3, t4⟩ := hx
     rw [hx]
     exact ⟨s', _, n', _, rfl, Zmw I1 hb hlo j2 pc (by omega) j9 je j8 R t3 t4⟩
   . have jt := eq_false x1
     by_cases x2 : x = 2
     . subst x2
       obtain ⟨l, q, jn, jm, Hc, nc, jq, jl, e2, hq, jx, jj, Dr⟩ := Ziq (D := D) (by omega) ns hc (p + 1) (by omega) (Z9 t) (by have := T.len5; omega) (Z9 t).length false true H1 (m + 6) b (m + 5) (by omega) (by omega) (by omega) I1.hb I1.h5
       obtain ⟨pc, ju, je⟩ := Dr.at_
       have j9 := Dr.n
       have j8 := Dr.low
       have j7 : Hc m = cT Z1 [y] := by rw [j8 m (by omega) (by omega)]; exact I1.h0
       have jg : TabG Hc lo nc y t := jo.mono (dO _) j9 (fun v k q1 q2 q3 _ => by rw [j8 v q2 (by omega)]; exact q3)
       obtain ⟨y1, q, h', n', e3, R⟩ := Zvd (show 11 <= D by omega) y t T id l jq jl Hc lo nc q jn jm (by omega) jg jj hq
       have hR := R
       obtain ⟨t1, ⟨a1, b1, c1, jc, jb, jd, rs1, jr, rfl, W1⟩, T1⟩ := hR.t
       have j1 : ∀ v, v ∈ [a1, b1, c1] -> (m = v) = False := fun v hv => eq_false (by
        rintro rfl
        rcases R.nm m (by simpa [Zg, Yb, Yk] using hv) with q | q
        . have := (j2 m q).2; omega
        . omega)
       have n1 := j1 a1 (by simp)
       have n2 := j1 b1 (by simp)
       have n3 := j1 c1 (by simp)
       have ja : h' m = cT Z1 [y] := by rw [R.fr m (by omega) (fun hv => by have := (j2 m hv).2; omega)]; exact j7
       obtain ⟨a', b', c', ea, eb, ec, rs, bx, rfl, W⟩ := hy
       have h0 := I1.h0
       have k1 : Z28 [m] H1 Hc := fun x hx => by rw [dX.1 hx]; exact h0.trans j7.symm
       have k2 : Z28 [m] Hc h' := fun x hx => by rw [dX.1 hx]; exact j7.trans ja.symm
       have jf := Zab (aH D) [m] _ _ H1 (m + 6) e2 k1
       have hx : ∃ s', Zj (aH D) (cRQ (hdQ (Zs 3 Xf.code))) ⟨s1, H1, m + 6, 0⟩ = some (.norm ⟨s', upd h' m (cT Z1 [Zf a1 b1 c1 jc jb jd t1]), n', 0⟩) /\ s' 3 = .ptr m 0 0 /\ s' 4 = .ptr (m + 1) 0 0 := by
        simp only [Xf, hdQ, tlQ, Zs, cRQ, go_sem, jp, j0, j3, j5, j6, js, jt, h0, jf, e3, Zuh, Zfh, ji, ja, n1, n2, n3]
        exact ⟨_, rfl, by simp only [go_sem, j3], by simp only [go_sem, j4]⟩
       obtain ⟨s', hx, t3, t4⟩ := hx
       rw [hx]
       exact ⟨s', _, n', _, rfl, Zmw I1 hb hlo j2 pc (by omega) j9 je j8 R t3 t4⟩
     . have jw := eq_false x2
       by_cases x3 : x = 3
       . subst x3
         obtain ⟨ch, Hc, nc, k3, e2, Dr⟩ := Zsw (D := D) (by omega) ns hc (p + 1) (by omega) (Z9 t) T.sh.1 (Z9 t).length false true H1 (m + 6) b (m + 5) (by omega) (by omega) (by omega) I1.hb I1.h5
         obtain ⟨pc, ju, je⟩ := Dr.at_
         have j9 := Dr.n
         have j8 := Dr.low
         have j7 : Hc m = cT Z1 [y] := by rw [j8 m (by omega) (by omega)]; exact I1.h0
         have jg : TabG Hc lo nc y t := jo.mono (dO _) j9 (fun v k q1 q2 q3 _ => by rw [j8 v q2 (by omega)]; exact q3)
         obtain ⟨y1, q, h', n', e3, R⟩ := Zsc (show 11 <= D by omega) y t T ch k3 Hc lo nc (by omega) jg
         have hR := R
         obtain ⟨t1, ⟨a1, b1, c1, jc, jb, jd, rs1, jr, rfl, W1⟩, T1⟩ := hR.t
         have j1 : ∀ v, v ∈ [a1, b1, c1] -> (m = v) = False := fun v hv => eq_false (by
          rintro rfl
          rcases R.nm m (by simpa [Zg, Yb, Yk] using hv) with q | q
          . have := (j2 m q).2; omega
          . omega)
         have n1 := j1 a1 (by simp)
         have n2 := j1 b1 (by simp)
         have n3 := j1 c1 (by simp)
         have ja : h' m = cT Z1 [y] := by rw [R.fr m (by omega) (fun hv => by have := (j2 m hv).2; omega)]; exact j7
         obtain ⟨a', b', c', ea, eb, ec, rs, bx, rfl, W⟩ := hy
         have h0 := I1.h0
         have k1 : Z28 [m] H1 Hc := fun x hx => by rw [dX.1 hx]; exact h0.trans j7.symm
         have k2 : Z28 [m] Hc h' := fun x hx => by rw [dX.1 hx]; exact j7.trans ja.symm
         have jf := Zab (aH D) [m] _ _ H1 (m + 6) e2 k1
         have jv := Zab (aH D) [m] _ _ Hc nc e3 k2
         have hx : ∃ s', Zj (aH D) (cRQ (hdQ (Zs 3 Xf.code))) ⟨s1, H1, m + 6, 0⟩ = some (.norm ⟨s', upd h' m (cT Z1 [Zf a1 b1 c1 jc jb jd t1]), n', 0⟩) /\ s' 3 = .ptr m 0 0 /\ s' 4 = .ptr (m + 1) 0 0 := by
          simp only [Xf, hdQ, tlQ, Zs, cRQ, go_sem, jp, j0, j3, j5, j6, js, jt, jw, h0, jf, jv, ja, n1, n2, n3]
          exact ⟨_, rfl, by simp only [go_sem, j3], by simp only [go_sem, j4]⟩
         obtain ⟨s', hx, t3, t4⟩ := hx
         rw [hx]
         exact ⟨s', _, n', _, rfl, Zmw I1 hb hlo j2 pc (by omega) j9 je j8 R t3 t4⟩
       . have jz := eq_false x3
         obtain ⟨l, q, jn, jm, Hc, nc, jq, jl, e2, hq, jx, jj, Dr⟩ := Ziq (D := D) (by omega) ns hc (p + 1) (by omega) (Z9 t) (by have := T.len5; omega) (Z9 t).length false true H1 (m + 6) b (m + 5) (by omega) (by omega) (by omega) I1.hb I1.h5
         obtain ⟨pc, ju, je⟩ := Dr.at_
         have j9 := Dr.n
         have j8 := Dr.low
         have j7 : Hc m = cT Z1 [y] := by rw [j8 m (by omega) (by omega)]; exact I1.h0
         have jg : TabG Hc lo nc y t := jo.mono (dO _) j9 (fun v k q1 q2 q3 _ => by rw [j8 v q2 (by omega)]; exact q3)
         obtain ⟨y1, q, h', n', e3, R⟩ := Y5l (show 11 <= D by omega) y t T l jq jl Hc lo nc q jn jm (by omega) jg jj hq
         have hR := R
         obtain ⟨t1, ⟨a1, b1, c1, jc, jb, jd, rs1, jr, rfl, W1⟩, T1⟩ := hR.t
         have j1 : ∀ v, v ∈ [a1, b1, c1] -> (m = v) = False := fun v hv => eq_false (by
          rintro rfl
          rcases R.nm m (by simpa [Zg, Yb, Yk] using hv) with q | q
          . have := (j2 m q).2; omega
          . omega)
         have n1 := j1 a1 (by simp)
         have n2 := j1 b1 (by simp)
         have n3 := j1 c1 (by simp)
         have ja : h' m = cT Z1 [y] := by rw [R.fr m (by omega) (fun hv => by have := (j2 m hv).2; omega)]; exact j7
         obtain ⟨a', b', c', ea, eb, ec, rs, bx, rfl, W⟩ := hy
         have h0 := I1.h0
         have k1 : Z28 [m] H1 Hc := fun x hx => by rw [dX.1 hx]; exact h0.trans j7.symm
         have k2 : Z28 [m] Hc h' := fun x hx => by rw [dX.1 hx]; exact j7.trans ja.symm
         have jf := Zab (aH D) [m] _ _ H1 (m + 6) e2 k1
         have jv := Zab (aH D) [m] _ _ Hc nc e3 k2
         have hx : ∃ s', Zj (aH D) (cRQ (hdQ (Zs 3 Xf.code))) ⟨s1, H1, m + 6, 0⟩ = some (.norm ⟨s', upd h' m (cT Z1 [Zf a1 b1 c1 jc jb jd t1]), n', 0⟩) /\ s' 3 = .ptr m 0 0 /\ s' 4 = .ptr (m + 1) 0 0 := by
          simp only [Xf, hdQ, tlQ, Zs, cRQ, go_sem, jp, j0, j3, j5, j6, js, jt, jw, jz, h0, jf, jv, Zuh, Zfh, ji, ja, n1, n2, n3]
          exact ⟨_, rfl, by simp only [go_sem, j3], by simp only [go_sem, j4]⟩
         obtain ⟨s', hx, t3, t4⟩ := hx
         rw [hx]
         exact ⟨s', _, n', _, rfl, Zmw I1 hb hlo j2 pc (by omega) j9 je j8 R t3 t4⟩
set_option maxHeartbeats 4000000 in
theorem Y4f {D : Nat} (hD : 12 <= D) (ns : List Int) (hc : Code ns) (p : Nat) (hp : p + 400 <= 2 ^ 29) (y : List A) (t : Tab) (T : TI t) (h : Hp) (b lo m : Nat) (hb : b < lo) (hlo : lo <= m) (hrd : h b = rdB ns p) (hy : TabG h lo m y t) :
 ∃ y' h' n', dfl pr D Z3h [.ptr b 0 0, .agg y] h m = some ([.agg y'], h', n') /\ ActR ns p 150 b lo m h y n' h' y' := by
 obtain ⟨D, rfl, hd⟩ := Zc hD
 rw [Zmp]
 obtain ⟨s1, H1, e1, I1⟩ := Yer (D := D) (by omega) ns hc p (by omega) y t T h b lo m hb hlo hrd hy
 obtain ⟨s2, H2, n2, y2, e2, O⟩ := Ydt (D := D) (by omega) ns hc (p + 1) (by omega) y t T h b lo m hb hlo hy s1 H1 I1
 rw [e1, Xz 3 e2 rfl]
 have j5 : ∀ v ∈ Zg y, lo <= v /\ v < m := by
  obtain ⟨a', b', c', ea, eb, ec, rs, bx, rfl, W⟩ := hy
  intro v hv
  have : v = a' \/ v = b' \/ v = c' := by simpa [Zg, Yb, Yk] using hv
  rcases this with rfl | rfl | rfl
  . exact ⟨W.a1, W.a2⟩
  . exact ⟨W.b1, W.b2⟩
  . exact ⟨W.c1, W.c2⟩
 obtain ⟨t2, ⟨a2, b2, c2, j0, j1, j2, rs2, j6, rfl, W2⟩, T2⟩ := O.t
 have j4 : ∀ v, v ∈ [a2, b2, c2] -> (m + 1 = v) = False := fun v hv => eq_false (by
  rintro rfl
  rcases O.nm (m + 1) (by simpa [Zg, Yb, Yk] using hv) with q | q
  . have := (j5 _ q).2; omega
  . omega)
 have f1 := j4 a2 (by simp)
 have f2 := j4 b2 (by simp)
 have f3 := j4 c2 (by simp)
 have o3 := O.s3; have o4 := O.s4; have o0 := O.h0; have o1 := O.h1
 have j9 := O.le
 have hx : ∃ s', Zj (aH D) (Zs 4 Xf.code) ⟨s2, H2, n2, 0⟩ = some (.ret ⟨s', upd H2 (m + 1) (cT Z1 [Zf a2 b2 c2 j0 j1 j2 t2]), n2, 0⟩) /\ s' 4 = .ptr (m + 1) 0 0 := by
  simp only [Xf, tlQ, Zs, go_sem, o3, o4, o0, o1, f1, f2, f3]
  exact ⟨_, rfl, by simp only [go_sem, o4]⟩
 obtain ⟨s', hx, t4⟩ := hx
 rw [hx]
 obtain ⟨p', j8, j3⟩ := O.rd
 refine ⟨Zf a2 b2 c2 j0 j1 j2 t2, upd H2 (m + 1) (cT Z1 [Zf a2 b2 c2 j0 j1 j2 t2]), n2, ?_, ⟨⟨p', by omega, ?_⟩, ⟨t2, ⟨a2, b2, c2, j0, j1, j2, rs2, j6, rfl, W2.mono (dO _) (dO _) (fun v k q1 q2 q3 q4 => ?_)⟩, T2⟩, by omega, fun v hv => ?_, fun v hv hn j7 => ?_⟩⟩
 . simp only [Xf, go_sem, t4]
 . rw [Z7, if_neg (by omega)]; exact j3
 . rw [Z7, if_neg (by rintro rfl; rw [o1] at q3; cases q3; exact q4 rfl)]; exact q3
 . rcases O.nm v hv with q | q
   . exact .inl q
   . exact .inr (by omega)
 . rw [Z7, if_neg (by omega)]; exact O.fr v hv hn j7
structure TbI (ns : List Int) (H0 : Hp) (b m p r : Nat) (s : Nat -> A) (h : Hp) (n p2 p3 : Nat) (t : Tab) : Prop where
 s0 : s 0 = .ptr b 0 0
 s2 : s 2 = .ptr p2 0 0
 s3 : s 3 = .ptr p3 0 0
 s4 : s 4 = .n r
 l2 : m <= p2 /\ p2 < n
 l3 : m <= p3 /\ p3 < n
 n23 : ¬ p2 = p3
 hb : h b = rdB ns p
 zy : ∃ z y, h p2 = cT Z1 [z] /\ ZI h m n z /\ h p3 = cT Z1 [y] /\ TabG h m n y t /\ ∀ v ∈ Zg z, ¬ v ∈ Zg y
 ti : TI t
 low : ∀ v, v < m -> ¬ v = b -> h v = H0 v
theorem ZI.ge {h : Hp} {m n : Nat} {z : List A} (Z : ZI h m n z) {v : Nat} (hv : v ∈ Zg z) : m <= v /\ v < n := by
 obtain ⟨za, zb, zc, j0, j2, j1, rfl, Z⟩ := Z
 have := Z v (by simpa [Zg, Yb, Yk] using hv)
 exact ⟨this.1, this.2.1⟩
theorem TabG.ge {h : Hp} {m n : Nat} {y : List A} {t : Tab} (Y : TabG h m n y t) {v : Nat} (hv : v ∈ Zg y) : m <= v /\ v < n /\ ∀ k, h v = some k -> ¬ k.ty = Z1 := by
 obtain ⟨a', b', c', ea, eb, ec, rs, bx, rfl, W⟩ := Y
 have : v = a' \/ v = b' \/ v = c' := by simpa [Zg, Yb, Yk] using hv
 rcases this with rfl | rfl | rfl
 . exact ⟨W.a1, W.a2, fun k hk => by rw [W.ha] at hk; cases hk; show ¬ Z0 = Z1; decide⟩
 . exact ⟨W.b1, W.b2, fun k hk => by rw [W.hb] at hk; cases hk; show ¬ Z3 = Z1; decide⟩
 . exact ⟨W.c1, W.c2, fun k hk => by rw [W.hc] at hk; cases hk; show ¬ Z4 = Z1; decide⟩
theorem TabG.nms {h : Hp} {m n : Nat} {y : List A} {t : Tab} (Y : TabG h m n y t) (base : Nat) (ns : List Nat) : Zg (Zdb base ns y) = (Zg y).map (nw base ns) := by
 obtain ⟨a', b', c', ea, eb, ec, rs, bx, rfl, W⟩ := Y
 rfl
theorem ZI.nms {h : Hp} {m n : Nat} {z : List A} (Z : ZI h m n z) (base : Nat) (ns : List Nat) : Zg (Zdb base ns z) = (Zg z).map (nw base ns) := by
 obtain ⟨za, zb, zc, j0, j2, j1, rfl, Z⟩ := Z
 rfl
theorem TbI.head {nc : List Int} {H0 : Hp} {b m p r : Nat} {s' : Nat -> A} {H : Hp} {n p2 p3 : Nat} {t : Tab} (hbm : b < m) (I : TbI nc H0 b m p r s' H n p2 p3 t) :
 ∃ q2 q3 ns, Go.Vm.canon [0, 2, 3, 4] ⟨s', H, n, m⟩ = some ⟨Xr m ns s' (fun _ => .bad) [0, 2, 3, 4], Z8u m H ns, m + ns.length, m⟩ /\ TbI nc H0 b m p r (Xr m ns s' (fun _ => .bad) [0, 2, 3, 4]) (Z8u m H ns) (m + ns.length) q2 q3 t := by
 obtain ⟨z, y, j1, Z', j6, Y', j9⟩ := I.zy
 have t0 := I.s0; have t2 := I.s2; have t3 := I.s3; have t4 := I.s4
 have i2 := I.l2; have i3 := I.l3
 obtain ⟨ns, j3, j5, AN⟩ := Zf0 (L := [0, 2, 3, 4]) (U := ⟨s', H, n, m⟩) (fun v hv b1 j2 jb b2 j4 jc => by
  rcases Xc.1 hv with hv | ⟨j, hj, hv, ja⟩
  . cases hv
  . have : v = p2 \/ v = p3 := by
     simp only [eK, fU, or_false] at hj
     rcases hj with rfl | rfl | rfl | rfl
     . exfalso
       have : v = b := by simpa [t0, Yb, Yk] using hv
       simp only at ja
       omega
     . left; simpa [t2, Yb, Yk] using hv
     . right; simpa [t3, Yb, Yk] using hv
     . simp [t4, Yb, Yk] at hv
    rcases this with rfl | rfl
    . have j0 : b1 ∈ Zg z := by
       unfold below at j2
       simp only [j1] at j2
       simpa [Zn] using j2
      have := Z'.deep j0
      simp only at j4
      rw [this] at j4; cases j4
    . have j0 : b1 ∈ Zg y := by
       unfold below at j2
       simp only [j6] at j2
       simpa [Zn] using j2
      exact (Y'.deep j0).2 b2 j4)
 simp only at j3 j5 AN
 have m2 : p2 ∈ ns := j5 p2 (Xc.2 (.inr ⟨2, by simp, by simp [t2, Yb, Yk], by omega⟩))
 have m3 : p3 ∈ ns := j5 p3 (Xc.2 (.inr ⟨3, by simp, by simp [t3, Yb, Yk], by omega⟩))
 have mz : ∀ b ∈ Zg z, b ∈ ns := fun b hb => AN.sub p2 m2 b (by unfold below; rw [j1]; simpa [Zn] using hb) (Z'.ge hb).1
 have my : ∀ b ∈ Zg y, b ∈ ns := fun b hb => AN.sub p3 m3 b (by unfold below; rw [j6]; simpa [Zn] using hb) (Y'.ge hb).1
 refine ⟨nw m ns p2, nw m ns p3, ns, j3, ?_⟩
 refine ⟨by simp [Xr, Z7, t0, ren, Zk8, Zdr hbm], by simp [Xr, Z7, t2, ren, Zk8], by simp [Xr, Z7, t3, ren, Zk8], by simp [Xr, Z7, t4, ren, Zk8], ⟨AN.ge' m2, AN.lt p2 m2⟩, ⟨AN.ge' m3, AN.lt p3 m3⟩, fun e => I.n23 (AN.inj p2 m2 p3 m3 e), by rw [Zb9 hbm]; exact I.hb, ⟨Zdb m ns z, Zdb m ns y, ?_, Z'.anew AN mz, ?_, Y'.anew AN my, fun v hv j7 => ?_⟩, I.ti, fun w hw j8 => ?_⟩
 . rw [AN.at_ p2 m2, j1]; rfl
 . rw [AN.at_ p3 m3, j6]; rfl
 . rw [Z'.nms] at hv
   rw [Y'.nms] at j7
   obtain ⟨u, hu, rfl⟩ := List.mem_map.1 hv
   obtain ⟨w, hw, e⟩ := List.mem_map.1 j7
   have := AN.inj w (my w hw) u (mz u hu) e
   subst this
   exact j9 _ hu hw
 . rw [Zb9 hw]
   exact I.low w hw j8
theorem Y8p {base b : Nat} {ns : List Int} {h h' : Hp} {p p' : Nat} (hb : h b = rdB ns p) (hb' : h' b = rdB ns p') (H : ∀ v, v < base -> ¬ v = b -> h' v = h v) : Shr base h h' := fun v hv k' hk' hbx => by
 by_cases e : v = b
 . subst e
   rw [hb'] at hk'
   cases hk'
   exact ⟨_, hb, rfl, fun w hw => by simp [Zn, Zg, Yb, Yk] at hw⟩
 . exact ⟨k', by rw [<- H v hv e]; exact hk', hbx, fun w hw => hw⟩
set_option maxHeartbeats 4000000 in
theorem Zgv {D : Nat} (hD : 12 <= D) (ns : List Int) (hc : Code ns) (H0 : Hp) (b m : Nat) (hbm : b < m) : ∀ (r : Nat) (K : Nat) (s : Nat -> A) (h : Hp) (n p p2 p3 : Nat) (t : Tab), p + 150 * r + 400 <= 2 ^ 29 -> r < K -> r <= 100 -> TbI ns H0 b m p r s h n p2 p3 t ->
 ∃ s' h' n' p' p2 p3 t', Zd (Zj (aH D) Wn) [0, 2, 3, 4] K ⟨s, h, n, m⟩ = some (.exit 0 ⟨s', h', n', m⟩) /\ p' <= p + 150 * r /\ TbI ns H0 b m p' 0 s' h' n' p2 p3 t'
 | 0, K, s, h, n, p, p2, p3, t, hp, hK, h100, I => by
   obtain ⟨K, rfl⟩ : ∃ j, K = j + 1 := ⟨K - 1, by omega⟩
   have hz : ¬ (0 : Int) < ((0 : Nat) : Int) := by decide
   have s0 := I.s0; have s2 := I.s2; have s3 := I.s3; have s4 := I.s4
   have step : ∃ s', Zd (Zj (aH D) Wn) [0, 2, 3, 4] (K + 1) ⟨s, h, n, m⟩ = some (.exit 0 ⟨s', h, n, m⟩) /\ s' 0 = .ptr b 0 0 /\ s' 2 = .ptr p2 0 0 /\ s' 3 = .ptr p3 0 0 /\ s' 4 = .n ((0 : Nat) : Int) := by
    simp only [Zd, Z81, Z10, go_sem, s4, hz]
    exact ⟨_, rfl, by simp only [go_sem, s0], by simp only [go_sem, s2], by simp only [go_sem, s3], by simp only [go_sem, s4]⟩
   obtain ⟨s', e0, e1, e2, e3, e4⟩ := step
   exact ⟨s', h, n, p, p2, p3, t, e0, by omega, ⟨e1, e2, e3, e4, I.l2, I.l3, I.n23, I.hb, I.zy, I.ti, I.low⟩⟩
 | r + 1, K, s, h, n, p, p2, p3, t, hp, hK, h100, I => by
   obtain ⟨K, rfl⟩ : ∃ j, K = j + 1 := ⟨K - 1, by omega⟩
   have hz : (0 : Int) < ((r + 1 : Nat) : Int) := by omega
   have hw : IntKind.i64.wrap (((r + 1 : Nat) : Int) - 1) = (r : Int) := Zfk (by omega)
   obtain ⟨z, y, jd, Z, j3, Y, jb⟩ := I.zy
   have s0 := I.s0; have s2 := I.s2; have s3 := I.s3; have s4 := I.s4
   have l2 := I.l2; have l3 := I.l3
   obtain ⟨y1, h1, n1, e1, R⟩ := Y4f hD ns hc p (by omega) y t I.ti h b m n hbm (by omega) I.hb Y
   obtain ⟨p', jx, jg⟩ := R.rd
   have jw := R.n
   have j0 : ∀ v, v < m -> ¬ v = b -> h1 v = h v := fun v hv j2 => R.fr v (by omega) (fun jm => by have := (Y.ge jm).1; omega) j2
   have j4 := eq_true (Y8p I.hb jg j0)
   have y3 : ¬ p3 ∈ Zg y := fun hv => (Y.ge hv).2.2 _ j3 rfl
   have y2 : ¬ p2 ∈ Zg y := fun hv => (Y.ge hv).2.2 _ jd rfl
   have j1 : h1 p3 = cT Z1 [y] := by rw [R.fr p3 l3.2 y3 (by omega)]; exact j3
   have j9 : h1 p2 = cT Z1 [z] := by rw [R.fr p2 l2.2 y2 (by omega)]; exact jd
   obtain ⟨t1, Y1, T1⟩ := R.t
   have j5 : ¬ p3 ∈ Zg y1 := fun hv => by
    rcases R.nm p3 hv with q | q
    . exact y3 q
    . omega
   have hY := Y
   have jp := Y1
   obtain ⟨a, b_, c, ea, eb, ec, rs, bx, rfl, W⟩ := hY
   obtain ⟨a1, b1, c1, j8, j6, ja, rs1, jy, rfl, W1⟩ := jp
   have g1 : (p3 = a1) = False := eqF (by rintro rfl; exact j5 (by simp [Zg, Yb, Yk]))
   have g2 : (p3 = b1) = False := eqF (by rintro rfl; exact j5 (by simp [Zg, Yb, Yk]))
   have g3 : (p3 = c1) = False := eqF (by rintro rfl; exact j5 (by simp [Zg, Yb, Yk]))
   have lm : (p3 < m) = False := eq_false (by omega)
   have step : ∃ s', Zj (aH D) Wn ⟨s, h, n, m⟩ = some (.norm ⟨s', upd h1 p3 (cT Z1 [Zf a1 b1 c1 j8 j6 ja t1]), n1, m⟩) /\ s' 0 = .ptr b 0 0 /\ s' 2 = .ptr p2 0 0 /\ s' 3 = .ptr p3 0 0 /\ s' 4 = .n (r : Int) := by
    simp only [Z81, Z10, go_sem, s0, s3, s4, hz, hw, j3, e1, Zfh, j4, j1, g1, g2, g3, lm]
    exact ⟨_, rfl, by simp only [go_sem, s0], by simp only [go_sem, s2], by simp only [go_sem, s3], by simp only [go_sem]⟩
   obtain ⟨s', jr, f0, f2, f3, f4⟩ := step
   have up : ∀ v, ¬ v = p3 -> upd h1 p3 (cT Z1 [Zf a1 b1 c1 j8 j6 ja t1]) v = h1 v := fun v hv => by rw [Z7, if_neg hv]
   have I' : TbI ns H0 b m p' r s' (upd h1 p3 (cT Z1 [Zf a1 b1 c1 j8 j6 ja t1])) n1 p2 p3 t1 := by
    refine ⟨f0, f2, f3, f4, by omega, by omega, I.n23, by rw [up b (by omega)]; exact jg, ⟨z, _, by rw [up p2 I.n23]; exact j9, ?_, by rw [Z0l], Y1.mono (dO _) (dO _) (fun v k q1 q2 q3 q4 => ?_), fun v hv jh => ?_⟩, T1, fun v hv j2 => ?_⟩
    . have jv := fun v (hv : v ∈ Zg z) => Z.ge hv
      obtain ⟨za, zb, zc, jf, je, jc, rfl, Z⟩ := Z
      refine ⟨za, zb, zc, jf, je, jc, rfl, fun v hv => ?_⟩
      have jt : v ∈ Zg (Vd za zb zc jf je jc) := by simpa [Zg, Yb, Yk] using hv
      obtain ⟨z1, z2, z3⟩ := Z v hv
      have jo : ¬ v = p3 := by
       rintro rfl
       have := z3 _ j3
       cases this
      refine ⟨z1, by omega, fun k hk => ?_⟩
      rw [up v jo, R.fr v z2 (jb v jt) (by omega)] at hk
      exact z3 k hk
    . rw [up v (by rintro rfl; rw [j1] at q3; cases q3; exact q4 rfl)]; exact q3
    . rcases R.nm v jh with q | q
      . exact jb v hv q
      . have := (Z.ge hv).2; omega
    . rw [up v (by omega), j0 v hv j2]; exact I.low v hv j2
   obtain ⟨q2, q3, jz, j7, jq⟩ := I'.head hbm
   obtain ⟨jn, jl, ji, js, r2, r3, jj, ju, k0, J⟩ := Zgv hD ns hc H0 b m hbm r K _ _ _ p' _ _ t1 (by omega) (by omega) (by omega) jq
   exact ⟨jn, jl, ji, js, r2, r3, jj, by rw [Z9r jr j7]; exact ju, by omega, J⟩
theorem Ztp (ns : List Int) (hc : Code ns) (xs : List Int) (hx : 0 < xs.length) (p : Nat) (hp : p <= 2 ^ 40) :
 ∃ x, x ∈ xs /\ ∀ (D : Nat) (hD : 2 <= D) (h : Hp) (m b : Nat) (hb : b < m) (hh : h b = rdB ns p), dcl pr D Zcb [.ptr b 0 0, .lit Wd (xs.map Zbu)] h m = some ([.n x], upd h b (rdB ns (p + 1)), m) := by
 obtain ⟨k, hk, he⟩ := Wv ns hc xs.length p hp
 have j0 := hk.1 (by omega)
 obtain ⟨j, rfl⟩ : ∃ j : Nat, k = (j : Int) := ⟨k.toNat, by omega⟩
 have hj : j < xs.length := by omega
 have hg : xs[j]? = some xs[j] := dS hj
 refine ⟨xs[j], eV hj, fun D hD h m b hb hh => ?_⟩
 obtain ⟨D, rfl, hd⟩ := Zc hD
 have hr := Zq (f := Zbu) hg
 have e := he D hd h m b hb hh
 rw [Y93]
 simp only [Y05, go_sem, dN, e, hr]
theorem Y4s {cs : List ColV} (hs : Zl cs = true) : TI ⟨cs, [], [], 1⟩ := by
 have h1 := Yq hs
 exact ⟨⟨h1.1, h1.2, fun c hc => (nomatch hc), by simp, by simp, fun r hr => (nomatch hr)⟩, hs, rfl, fun r hr => (nomatch hr), by simp, by simp, by show (1 : Int) <= 1; decide, by show (1 : Int) <= 60; decide⟩
abbrev Y2m : List Int := [6, 10, 16, 24, 3, 0]
set_option maxHeartbeats 4000000 in
theorem Ztl {D : Nat} (hD : 13 <= D) (ns : List Int) (hc : Code ns) (p : Nat) (hp : p + 5000 <= 2 ^ 29) (h : Hp) (m b : Nat) (hbm : b < m) (hrd : h b = rdB ns p) :
 ∃ y h' n' p' t, dcl pr D Z2w [.ptr b 0 0] h m = some ([.agg y], h', n') /\ TabG h' m n' y t /\ TI t /\ m <= n' /\ p' <= p + 3700 /\ h' b = rdB ns p' /\ ∀ v, v < m -> ¬ v = b -> h' v = h v := by
 obtain ⟨D, rfl, hd⟩ := Zc hD
 rw [Zfw]
 have B := Z8 hbm
 have h0 : ∃ s H, Zj (aH D) (hdQ (Zs 0 V6.code)) ⟨slots [.ptr b 0 0], h, m, m⟩ = some (.norm ⟨s, H, m + 4, m⟩) /\ s 0 = .ptr b 0 0 /\ s 2 = .ptr m 0 0 /\ H m = cT Z1 [Vd (m + 1) (m + 2) (m + 3) false false false] /\ H (m + 1) = cU Z0 [] /\ H (m + 2) = cU Z3 [] /\ H (m + 3) = cU Z4 [] /\ ∀ y, y < m -> H y = h y := by
  simp only [V6, hdQ, Zs, go_sem]
  refine ⟨_, _, rfl, ?_, ?_, ?_, ?_, ?_, ?_, fun y hy => ?_⟩
  . simp only [go_sem]
  . simp only [go_sem]
  . simp only [go_sem]
  . simp only [go_sem]
  . simp only [go_sem]
  . simp only [go_sem]
  . have Y := Z8 hy
    simp only [go_sem, Y.a]
 obtain ⟨s0, H0, e0, a0, a2, b0, b1, b2, b3, b4⟩ := h0
 obtain ⟨cs, ex, p1, jt, c1, c2, k0, e1⟩ := Zwp (D := D) (by omega) ns hc p (by omega) H0 (m + 11) b (by omega) (by rw [b4 b hbm]; exact hrd)
 have ja := jt.shape c1 (by omega)
 have e2 := Zrq (show 6 <= D by omega) cs ja
 have jl := Zb ColV.c cs
 have h1 : ∃ s H, Zj (aH D) (hdQ (Zs 1 V6.code)) ⟨s0, H0, m + 4, m⟩ = some (.norm ⟨s, H, m + 19, m⟩) /\ s 0 = .ptr b 0 0 /\ s 2 = .ptr m 0 0 /\ s 3 = .ptr (m + 15) 0 0 /\ H (m + 15) = cT Z1 [[cV Z0 (m + 12) cs.length false, cV Z3 (m + 13) 0 false, cV Z4 (m + 14) 0 false, .n 1]] /\ H (m + 12) = cU Z0 (cs.map ColV.c) /\ H (m + 13) = cU Z3 [] /\ H (m + 14) = cU Z4 [] /\ H b = rdB ns p1 /\ ∀ y, y < m + 4 -> ¬ y = b -> H y = H0 y := by
  simp only [V6, go_sem, a0, e1, e2, jl, Za, B.k', dN, dO]
  refine ⟨_, _, rfl, ?_, ?_, ?_, ?_, ?_, ?_, ?_, ?_, fun y hy j1 => ?_⟩
  . simp only [go_sem, a0]
  . simp only [go_sem, a2]
  . simp only [go_sem]
  . simp only [go_sem]
  . simp only [go_sem]
  . simp only [go_sem]
  . simp only [go_sem]
  . simp only [go_sem, Zej, B.k]
  . have Y : ∀ k, 4 <= k -> (y = m + k) = False := fun k hk => eq_false (by omega)
    have yl : (y < m + 11) = True := eq_true (by omega)
    have jx := Y 11 (by omega); have js := Y 12 (by omega); have jd := Y 13 (by omega); have jq := Y 14 (by omega); have jj := Y 15 (by omega); have jr := Y 16 (by omega); have jm := Y 17 (by omega); have jn := Y 18 (by omega)
    simp only [go_sem, Zej, low, j1, yl, jx, js, jd, jq, jj, jr, jm, jn]
 obtain ⟨s1, H1, e3, a0, a2, a3, g0, g1, g2, g3, g4, g5⟩ := h1
 obtain ⟨x, hx, e4⟩ := Ztp ns hc Y2m (by decide) p1 (by omega)
 have jh : 0 <= x /\ x <= 24 := by
  have : ∀ v ∈ Y2m, 0 <= v /\ v <= 24 := by decide
  exact this x hx
 obtain ⟨r, rfl⟩ : ∃ r : Nat, x = (r : Int) := ⟨x.toNat, by omega⟩
 have jb := e4 D (by omega)
 simp only [fO, dJ] at jb
 have k2 := Z8 (show b < m + 19 by omega)
 have h2 : ∃ s, Zj (aH D) (cLQ (hdQ (Zs 2 V6.code))) ⟨s1, H1, m + 19, m⟩ = some (.norm ⟨s, upd H1 b (rdB ns (p1 + 1)), m + 19, m⟩) /\ s 0 = .ptr b 0 0 /\ s 2 = .ptr m 0 0 /\ s 3 = .ptr (m + 15) 0 0 /\ s 4 = .n (r : Int) := by
  simp only [V6, hdQ, tlQ, Zs, cLQ, go_sem, a0, jb, g4, B.lk]
  exact ⟨_, rfl, by simp only [go_sem, a0], by simp only [go_sem, a2], by simp only [go_sem, a3], by simp only [go_sem]⟩
 obtain ⟨s2, e5, d0, d2, d3, d4⟩ := h2
 have up : ∀ v, ¬ v = b -> upd H1 b (rdB ns (p1 + 1)) v = H1 v := fun v hv => by rw [Z7, if_neg hv]
 have I0 : TbI ns h b m (p1 + 1) r s2 (upd H1 b (rdB ns (p1 + 1))) (m + 19) m (m + 15) ⟨cs, [], [], 1⟩ := by
  refine ⟨d0, d2, d3, d4, by omega, by omega, by omega, by rw [Z0l], ⟨Vd (m + 1) (m + 2) (m + 3) false false false, Zf (m + 12) (m + 13) (m + 14) false false false ⟨cs, [], [], 1⟩, ?_, ⟨m + 1, m + 2, m + 3, false, false, false, rfl, fun v hv => ?_⟩, ?_, ⟨m + 12, m + 13, m + 14, false, false, false, [], false, rfl, ?_⟩, fun v hv jg => ?_⟩, Y4s ja, fun v hv j1 => ?_⟩
  . rw [up m (by omega), g5 m (by omega) (by omega)]; exact b0
  . have : v = m + 1 \/ v = m + 2 \/ v = m + 3 := by simpa using hv
    rcases this with rfl | rfl | rfl
    . exact ⟨by omega, by omega, fun k hk => by rw [up _ (by omega), g5 _ (by omega) (by omega), b1] at hk; cases hk; rfl⟩
    . exact ⟨by omega, by omega, fun k hk => by rw [up _ (by omega), g5 _ (by omega) (by omega), b2] at hk; cases hk; rfl⟩
    . exact ⟨by omega, by omega, fun k hk => by rw [up _ (by omega), g5 _ (by omega) (by omega), b3] at hk; cases hk; rfl⟩
  . rw [up (m + 15) (by omega)]; exact g0
  . refine ⟨by rw [up _ (by omega)]; exact g1, by rw [up _ (by omega)]; exact g2, by rw [up _ (by omega)]; exact g3, .inr rfl, ⟨rfl, fun j r hr => by simp at hr⟩, by omega, by omega, by omega, by omega, by omega, by omega⟩
  . have q1 : v = m + 1 \/ v = m + 2 \/ v = m + 3 := by simpa [Zg, Yb, Yk] using hv
    have q2 : v = m + 12 \/ v = m + 13 \/ v = m + 14 := by simpa [Zg, Yb, Yk] using jg
    omega
  . rw [up v j1, g5 v (by omega) j1]; exact b4 v hv
 obtain ⟨q2, q3, k4, j9, I1⟩ := I0.head hbm
 obtain ⟨s3, H3, n3, jv, p2, p3, t3, jy, k3, J⟩ := Zgv (D := D) (by omega) ns hc h b m hbm r rounds _ _ _ (p1 + 1) _ _ _ (by omega) (by unfold rounds; omega) (by omega) I1
 have h3 : Zj (aH D) (hdQ (Zs 2 V6.code)) ⟨s1, H1, m + 19, m⟩ = some (.norm ⟨s3, H3, n3, m⟩) := by
  show Zh2 (Zj _ (cLQ (hdQ (Zs 2 V6.code))) _) (fun O => blO 0 (bnd (Go.Vm.canon [0, 2, 3, 4] O) (Zd (Zj _ Wn) [0, 2, 3, 4] rounds))) = _
  rw [e5]
  show blO 0 (bnd (Go.Vm.canon [0, 2, 3, 4] ⟨s2, upd H1 b (rdB ns (p1 + 1)), m + 19, m⟩) _) = _
  rw [j9]
  show blO 0 (Zd _ _ _ _) = _
  rw [jy]
  rfl
 have j4 := ((Xz (C := V6.code) 0 e0 rfl).trans (Xz 1 e3 rfl)).trans (Xz 2 h3 rfl)
 rw [show Zs 0 V6.code = V6.code from rfl] at j4
 rw [j4]
 obtain ⟨z, y, jp, Z, ji, Y, k1⟩ := J.zy
 have j2 := J.s2; have j3 := J.s3
 have l2 := J.l2; have l3 := J.l3
 have T := J.ti
 obtain ⟨y4, H4, n4, e6, Y4, jz, j0⟩ := Zq1 (D := D) (by omega) y t3 H3 n3 (Y.mono (dG _) (dO _) (fun v k _ _ q _ => q)) (by have := T.rows; omega) (fun r hr => by have := (T.small.vals r hr).2; omega) (by have := T.small.clen; omega) T.small.glen
 obtain ⟨a, b_, c, ea, eb, ec, rs, bx, rfl, W⟩ := Y
 obtain ⟨a4, j5, c4, j8, j6, j7, je, jc, rfl, W4⟩ := Y4
 obtain ⟨za, zb, zc, jw, ju, jf, rfl, Z⟩ := Z
 have w1 := W4.a1; have w2 := W4.b1; have w3 := W4.c1
 have f1 : (p2 = a4) = False := eqF (by omega)
 have f2 : (p2 = j5) = False := eqF (by omega)
 have f3 : (p2 = c4) = False := eqF (by omega)
 have lm : (p2 < m) = False := eq_false (by omega)
 have jo : H4 p2 = cT Z1 [Vd za zb zc jw ju jf] := by rw [j0 p2 l2.2]; exact jp
 have hx : ∃ s', Zj (aH D) (Zs 3 V6.code) ⟨s3, H3, n3, m⟩ = some (.ret ⟨s', upd H4 p2 (cT Z1 [Zf a4 j5 c4 j8 j6 j7 t3]), n4, m⟩) /\ s' 2 = .ptr p2 0 0 := by
  simp only [V6, tlQ, Zs, go_sem, j2, j3, ji, e6, jo, f1, f2, f3, lm]
  exact ⟨_, rfl, by simp only [go_sem, j2]⟩
 obtain ⟨s', hx, t4⟩ := hx
 rw [hx]
 refine ⟨Zf a4 j5 c4 j8 j6 j7 t3, upd H4 p2 (cT Z1 [Zf a4 j5 c4 j8 j6 j7 t3]), n4, jv, t3, ?_, ⟨a4, j5, c4, j8, j6, j7, je, jc, rfl, W4.mono (by omega) (dO _) (fun v k q1 q2 q3 q4 => ?_)⟩, T, by omega, by omega, ?_, fun v hv j1 => ?_⟩
 . simp only [V6, go_sem, t4]
 . rw [Z7, if_neg (by omega)]; exact q3
 . rw [Z7, if_neg (by omega), j0 b (by omega)]; exact J.hb
 . rw [Z7, if_neg (by omega), j0 v (by omega)]; exact J.low v hv j1
abbrev Ya0 : List ByteArray := [⟨#[]⟩, ⟨#[65]⟩, ⟨#[97, 98, 99, 100]⟩, ⟨#[97]⟩]
abbrev Ydp : List Int := [0, 3, 1, 2]
def SmallK (cs : List ColV) : Prop := ∀ c ∈ cs, c.nm.size <= big /\ c.df.t.size <= big
theorem SmallK.set {cs : List ColV} (h : SmallK cs) (k : Nat) {c : ColV} (hc : c.nm.size <= big /\ c.df.t.size <= big) : SmallK (cs.set k c) := fun x hx => by
 rcases fB hx with hx | rfl
 . exact h x hx
 . exact hc
structure BnR (ns : List Int) (p b m : Nat) (h : Hp) (l : Nat) (n' : Nat) (h' : Hp) (q : Nat) (cs : List ColV) : Prop where
 at_ : h' q = cU Z0 (cs.map ColV.c)
 q1 : m <= q
 q2 : q < n'
 dr : Drew ns p 10 b m h n' h'
 sm : SmallK cs
 len : cs.length <= l + 1
set_option maxHeartbeats 8000000 in
theorem Zdj {D : Nat} (hD : 6 <= D) (ns : List Int) (hc : Code ns) (p : Nat) (hp : p + 20 <= 2 ^ 40) (cs : List ColV) (hl : cs.length <= 20) (hcs : SmallK cs) (cp : Nat) (ex ow : Bool) (h : Hp) (m b qs : Nat) (hb : b < m) (hqs : qs < m) (hh : h b = rdB ns p) (hs : h qs = some ⟨Z0, cs.map ColV.c, ow, false⟩) :
 ∃ cs' q cp' ex' h' n', dcl pr D Vq [.ptr b 0 0, .ref Z0 qs 0 cs.length cp ex] h m = some ([.ref Z0 q 0 cs'.length cp' ex'], h', n') /\ cp' = cs'.length /\ BnR ns p b m h cs.length n' h' q cs' := by
 obtain ⟨D, rfl, hd⟩ := Zc hD
 rw [Zi1]
 have B := Z8 hb
 have Q := Z8 hqs
 have ji := Zb ColV.c cs
 have jm : cs.length <= big := by unfold big; omega
 have h0 : ∃ s H, Zj (aH D) (Zs 0 Zu.code) ⟨slots [.ptr b 0 0, .ref Z0 qs 0 cs.length cp ex], h, m, m⟩ = Zj (aH D) (Zs 2 Zu.code) ⟨s, H, m + 3, m⟩ /\ s 0 = .ptr b 0 0 /\ s 5 = cV Z0 (m + 2) cs.length false /\ H (m + 2) = cU Z0 (cs.map ColV.c) /\ ∀ y, y < m -> H y = h y := by
  have q0 : ∃ s H, Zj (aH D) (hdQ (Zs 0 Zu.code)) ⟨slots [.ptr b 0 0, .ref Z0 qs 0 cs.length cp ex], h, m, m⟩ = some (.norm ⟨s, H, m + 1, m⟩) /\ s 0 = .ptr b 0 0 /\ s 1 = .ref Z0 qs 0 cs.length cp ex /\ ∀ y, y < m -> H y = h y := by
   simp only [Zu, hdQ, Zs, go_sem]
   refine ⟨_, _, rfl, ?_, ?_, fun y hy => ?_⟩
   . simp only [go_sem]
   . simp only [go_sem]
   . have Y := Z8 hy
     simp only [go_sem, Y.e]
  obtain ⟨s, H, q0, a0, a1, a2⟩ := q0
  have jo : H qs = some ⟨Z0, cs.map ColV.c, ow, false⟩ := by rw [a2 qs hqs]; exact hs
  have q1 : ∃ s' H', Zj (aH D) (hdQ (Zs 1 Zu.code)) ⟨s, H, m + 1, m⟩ = some (.norm ⟨s', H', m + 3, m⟩) /\ s' 0 = .ptr b 0 0 /\ s' 5 = cV Z0 (m + 2) cs.length false /\ H' (m + 2) = cU Z0 (cs.map ColV.c) /\ ∀ y, y < m -> H' y = h y := by
   simp only [Zu, go_sem, a1, jo, ji, jm, Q.k, dN, dO]
   refine ⟨_, _, rfl, ?_, ?_, ?_, fun y hy => ?_⟩
   . simp only [go_sem, a0]
   . simp only [go_sem]
   . simp only [go_sem]
   . have Y := Z8 hy
     simp only [go_sem, Y.k]
     exact a2 y hy
  obtain ⟨s', H', q1, r⟩ := q1
  exact ⟨s', H', (Xz 0 q0 rfl).trans (Xz 1 q1 rfl), r⟩
 obtain ⟨s0, H0, e0, a0, a5, g2, g0⟩ := h0
 rw [show Zs 0 Zu.code = Zu.code from rfl] at e0
 rw [e0]
 have jj : H0 b = rdB ns p := by rw [g0 b hb]; exact hh
 by_cases l0 : cs.length = 0
 . have jh : cs = [] := fE.1 l0
   subst jh
   have hx : ∃ s', Zj (aH D) (Zs 2 Zu.code) ⟨s0, H0, m + 3, m⟩ = some (.ret ⟨s', H0, m + 3, m⟩) /\ s' 4 = cV Z0 (m + 2) 0 false := by
    simp only [eG] at a5
    simp only [Zu, tlQ, Zs, go_sem, a5, Int.natCast_zero]
    exact ⟨_, rfl, by simp only [go_sem]⟩
   obtain ⟨s', hx, t4⟩ := hx
   rw [hx]
   refine ⟨[], m + 2, 0, false, H0, m + 3, ?_, rfl, ⟨g2, by omega, by omega, ⟨⟨p, by omega, jj⟩, by omega, fun y hy _ => g0 y hy⟩, fun x hx => (nomatch hx), by simp⟩⟩
   simp only [Zu, go_sem, t4]
 . obtain ⟨j', jr, e1⟩ := Wv ns hc (cs.length : Int) p (by omega)
   have jz := jr.1 (by omega)
   obtain ⟨j, rfl⟩ : ∃ j : Nat, j' = (j : Int) := ⟨j'.toNat, by omega⟩
   have hj : j < cs.length := by omega
   have jq : ((cs.length : Int) = 0) = False := eq_false (by omega)
   have jw := e1 D (by omega)
   obtain ⟨x, hx, e2⟩ := Wv ns hc 60 (p + 1) (by omega)
   have j4 := e2 D (by omega)
   have B3 := Z8 (show b < m + 3 by omega)
   have h1 : ∃ s, Zj (aH D) (Zs 2 Zu.code) ⟨s0, H0, m + 3, m⟩ = Zj (aH D) (Zs 4 Zu.code) ⟨s, upd H0 b (rdB ns (p + 1)), m + 3, m⟩ /\ s 0 = .ptr b 0 0 /\ s 5 = cV Z0 (m + 2) cs.length false /\ s 6 = .n (j : Int) := by
    have q0 : ∃ s, Zj (aH D) (hdQ (Zs 2 Zu.code)) ⟨s0, H0, m + 3, m⟩ = some (.norm ⟨s, H0, m + 3, m⟩) /\ s 0 = .ptr b 0 0 /\ s 5 = cV Z0 (m + 2) cs.length false := by
     simp only [Zu, go_sem, a5, jq]
     exact ⟨_, rfl, by simp only [go_sem, a0], by simp only [go_sem, a5]⟩
    obtain ⟨s, q0, b0, b5⟩ := q0
    have q1 : ∃ s', Zj (aH D) (hdQ (Zs 3 Zu.code)) ⟨s, H0, m + 3, m⟩ = some (.norm ⟨s', upd H0 b (rdB ns (p + 1)), m + 3, m⟩) /\ s' 0 = .ptr b 0 0 /\ s' 5 = cV Z0 (m + 2) cs.length false /\ s' 6 = .n (j : Int) := by
     simp only [Zu, go_sem, b0, b5, jw, jj, B.lk]
     exact ⟨_, rfl, by simp only [go_sem, b0], by simp only [go_sem, b5], by simp only [go_sem]⟩
    obtain ⟨s', q1, r⟩ := q1
    exact ⟨s', (Xz 2 q0 rfl).trans (Xz 3 q1 rfl), r⟩
   obtain ⟨s1, e3, a0, a5, a6⟩ := h1
   rw [e3]
   have j8 : upd H0 b (rdB ns (p + 1)) b = rdB ns (p + 1) := by rw [Z0l]
   have j3 : upd H0 b (rdB ns (p + 1)) (m + 2) = cU Z0 (cs.map ColV.c) := by rw [Z7, if_neg (by omega)]; exact g2
   have j5 : ∀ y, y < m -> ¬ y = b -> upd H0 b (rdB ns (p + 1)) y = h y := fun y hy j1 => by rw [Z7, if_neg j1]; exact g0 y hy
   generalize upd H0 b (rdB ns (p + 1)) = H1 at *
   have jp : cs[j]? = some cs[j] := dS hj
   have hr := Zq (f := ColV.c) jp
   have j6 := hcs cs[j] (eV hj)
   generalize cs[j] = c at *
   obtain ⟨cn, ck, cd, co, dk, dn, dt⟩ := c
   simp only at j6
   have jt := eQ j
   have j0 := eP j
   have done : ∀ (s : Nat -> A) (H : Hp) (n p' : Nat) (c' : ColV), s 4 = cV Z0 (m + 2) cs.length false -> H (m + 2) = some ⟨Z0, (cs.map ColV.c).set j c'.c, true, false⟩ -> m + 3 <= n -> p' <= p + 10 -> H b = rdB ns p' -> (∀ y, y < m -> ¬ y = b -> H y = h y) -> (c'.nm.size <= big /\ c'.df.t.size <= big) -> ∃ cs' q cp' ex' h' n', Zo9 Zu.res ⟨s, H, n, m⟩ = some ([.ref Z0 q 0 cs'.length cp' ex'], h', n') /\ cp' = cs'.length /\ BnR ns p b m h cs.length n' h' q cs' := fun s H n p' c' t4 hH hn jf jn jd jg => by
    refine ⟨cs.set j c', m + 2, cs.length, false, H, n, ?_, by simp, ⟨by rw [gN]; exact hH, by omega, by omega, ⟨⟨p', jf, jn⟩, by omega, jd⟩, hcs.set j jg, by simp⟩⟩
    simp only [Zu, go_sem, t4, dK]
   have j2 : ∀ (p' n : Nat) (c' : ColV), p' <= p + 10 -> m + 3 <= n -> (c'.nm.size <= big /\ c'.df.t.size <= big) -> (∃ s H, Zj (aH D) (Zs 4 Zu.code) ⟨s1, H1, m + 3, m⟩ = some (.ret ⟨s, H, n, m⟩) /\ s 4 = cV Z0 (m + 2) cs.length false /\ H (m + 2) = some ⟨Z0, (cs.map ColV.c).set j c'.c, true, false⟩ /\ H b = rdB ns p' /\ ∀ y, y < m -> ¬ y = b -> H y = h y) -> ∃ cs' q cp' ex' h' n', Zbk (Zj (aH D) (Zs 4 Zu.code) ⟨s1, H1, m + 3, m⟩) (Zo9 Zu.res) = some ([.ref Z0 q 0 cs'.length cp' ex'], h', n') /\ cp' = cs'.length /\ BnR ns p b m h cs.length n' h' q cs' := fun p' n c' jf hn jg hx => by
    obtain ⟨s, H, hx, t4, q1, q2, q3⟩ := hx
    rw [hx]
    exact done s H n p' c' t4 q1 hn jf q2 q3 jg
   by_cases x0 : x = 0
   . subst x0
     obtain ⟨nm, ju, e4⟩ := Zv4 ns hc Ya0 (by decide) (p + 2) (by omega)
     have j7 := fun h m b bl => e4 D (by omega) h m b bl 4 true
     simp only [eF, eG] at j7
     have w1 : nm.size <= big := by
      have : ∀ x ∈ Ya0, x.size <= 5 := by decide
      have := this nm ju
      unfold big; omega
     refine j2 (p + 3) (m + 5) ⟨nm, ck, cd, co, dk, dn, dt⟩ (by omega) (by omega) ⟨w1, j6.2⟩ ?_
     simp only [Zu, tlQ, Zs, go_sem, a0, a5, a6, j4, j8, j3, hr, hj, j0, jt, B.a, dN, dO, j7]
     refine ⟨_, _, rfl, ?_, ?_, ?_, fun y hy j1 => ?_⟩
     . simp only [go_sem]
     . simp only [go_sem, B.k']
     . simp only [go_sem, B.k]
     . have Y := Z8 hy
       simp only [go_sem, j1, Y.k]
       exact j5 y hy j1
   . have j9 := eq_false x0
     by_cases x1 : x = 1
     . subst x1
       obtain ⟨kk, jx, e4⟩ := Zt5 ns hc Ydp (by decide) (p + 2) (by omega)
       have j7 := fun h m b bl => e4 D (by omega) h m b bl 4 true
       simp only [eF, eG] at j7
       refine j2 (p + 3) (m + 5) ⟨cn, kk, cd, co, dk, dn, dt⟩ (by omega) (by omega) j6 ?_
       simp only [Zu, tlQ, Zs, go_sem, a0, a5, a6, j4, j8, j3, hr, hj, j0, jt, B.a, dN, dO, j7, j9]
       refine ⟨_, _, rfl, ?_, ?_, ?_, fun y hy j1 => ?_⟩
       . simp only [go_sem]
       . simp only [go_sem, B.k']
       . simp only [go_sem, B.k]
       . have Y := Z8 hy
         simp only [go_sem, j1, Y.k]
         exact j5 y hy j1
     . have ja := eq_false x1
       by_cases x2 : x = 2
       . subst x2
         obtain ⟨v, p2, g, G, hv, jy, e4⟩ := Zji ns hc (p + 2) (by omega)
         obtain ⟨vk, vn, vt⟩ := v
         simp only at hv
         have j7 := e4 D (by omega)
         refine j2 p2 (m + 3 + g) ⟨cn, ck, cd, co, vk, vn, vt⟩ (by omega) (by omega) ⟨j6.1, by simp only; unfold big; omega⟩ ?_
         simp only [Zu, tlQ, Zs, go_sem, a0, a5, a6, j4, j8, j3, hr, hj, j0, jt, B.a, dN, dO, j7, j9, ja]
         refine ⟨_, _, rfl, ?_, ?_, ?_, fun y hy j1 => ?_⟩
         . simp only [go_sem]
         . simp only [go_sem, B.k']
         . simp only [go_sem, B.a]
         . have Y := Z8 hy
           simp only [go_sem, j1, Y.a]
           exact j5 y hy j1
       . have jc := eq_false x2
         by_cases x3 : x = 3
         . subst x3
           have jv : cs.length + 1 <= big := by unfold big; omega
           have hx : ∃ s H, Zj (aH D) (Zs 4 Zu.code) ⟨s1, H1, m + 3, m⟩ = some (.ret ⟨s, H, m + 5, m⟩) /\ s 4 = .ref Z0 (m + 4) 0 (cs.length + 1) (cs.length + 1) false /\ H (m + 4) = some ⟨Z0, cs.map ColV.c ++ [(⟨cn, ck, cd, co, dk, dn, dt⟩ : ColV).c], true, false⟩ /\ H b = rdB ns (p + 2) /\ ∀ y, y < m -> ¬ y = b -> H y = h y := by
            simp only [Zu, tlQ, Zs, go_sem, a0, a5, a6, j4, j8, j3, hr, hj, j0, jt, B.a, dN, dO, ji, jv, j9, ja, jc]
            refine ⟨_, _, rfl, ?_, ?_, ?_, fun y hy j1 => ?_⟩
            . simp only [go_sem]
            . simp only [go_sem, B.k']
            . simp only [go_sem, B.k]
            . have Y := Z8 hy
              simp only [go_sem, j1, Y.k]
              exact j5 y hy j1
           obtain ⟨s, H, hx, t4, q1, q2, q3⟩ := hx
           rw [hx]
           refine ⟨cs ++ [⟨cn, ck, cd, co, dk, dn, dt⟩], m + 4, cs.length + 1, false, H, m + 5, ?_, by simp, ⟨by rw [q1, eO]; rfl, by omega, by omega, ⟨⟨p + 2, by omega, q2⟩, by omega, q3⟩, fun x hx => ?_, by simp⟩⟩
           . simp only [Zu, go_sem, t4, eE, eF, eG]
           . rcases dW.1 hx with hx | hx
             . exact hcs x hx
             . rw [dX] at hx; subst hx; exact j6
         . have je := eq_false x3
           by_cases x4 : x = 4
           . subst x4
             have hx : ∃ s H, Zj (aH D) (Zs 4 Zu.code) ⟨s1, H1, m + 3, m⟩ = some (.ret ⟨s, H, m + 4, m⟩) /\ s 4 = cV Z0 (m + 3) 0 true /\ H (m + 3) = cU Z0 [] /\ H b = rdB ns (p + 2) /\ ∀ y, y < m -> ¬ y = b -> H y = h y := by
              simp only [Zu, tlQ, Zs, go_sem, a0, a5, a6, j4, j8, j3, hr, hj, j0, jt, B.a, dN, dO, j9, ja, jc, je]
              refine ⟨_, _, rfl, ?_, ?_, ?_, fun y hy j1 => ?_⟩
              . simp only [go_sem]
              . simp only [go_sem, B.k']
              . simp only [go_sem, B.k]
              . have Y := Z8 hy
                simp only [go_sem, j1, Y.k]
                exact j5 y hy j1
             obtain ⟨s, H, hx, t4, q1, q2, q3⟩ := hx
             rw [hx]
             refine ⟨[], m + 3, 0, true, H, m + 4, ?_, rfl, ⟨q1, by omega, by omega, ⟨⟨p + 2, by omega, q2⟩, by omega, q3⟩, fun x hx => (nomatch hx), by simp⟩⟩
             simp only [Zu, go_sem, t4, eG]
           . have jl := eq_false x4
             by_cases x5 : x = 5
             . subst x5
               refine j2 (p + 2) (m + 3) ⟨cn, ck, cd, !co, dk, dn, dt⟩ (by omega) (by omega) j6 ?_
               simp only [Zu, tlQ, Zs, go_sem, a0, a5, a6, j4, j8, j3, hr, hj, j0, jt, B.a, dN, dO, j9, ja, jc, je, jl]
               refine ⟨_, _, rfl, ?_, ?_, ?_, fun y hy j1 => ?_⟩
               . simp only [go_sem]
               . simp only [go_sem, B.k']
               . simp only [go_sem, B.k]
               . have Y := Z8 hy
                 simp only [go_sem, j1, Y.k]
                 exact j5 y hy j1
             . have js := eq_false x5
               have jb : (cs.map ColV.c).set j (⟨cn, ck, cd, co, dk, dn, dt⟩ : ColV).c = cs.map ColV.c := by
                apply List.ext_getElem?
                intro i
                by_cases hi : j = i
                . subst hi; rw [gI (by simpa using hj), hr]
                . rw [List.getElem?_set_ne hi]
               refine j2 (p + 2) (m + 3) ⟨cn, ck, cd, co, dk, dn, dt⟩ (by omega) (by omega) j6 ?_
               rw [jb]
               simp only [Zu, tlQ, Zs, go_sem, a0, a5, a6, j4, j8, j3, hr, hj, j0, jt, B.a, dN, dO, j9, ja, jc, je, jl, js]
               refine ⟨_, _, rfl, ?_, ?_, ?_, fun y hy j1 => ?_⟩
               . simp only [go_sem]
               . simp only [go_sem, B.k', j3]
               . simp only [go_sem]
               . have Y := Z8 hy
                 simp only [go_sem, j1]
                 exact j5 y hy j1
def Y3g (h : Hp) (m : Nat) (x : List A) : Prop := ∃ (id ver : Int) (v : Nat) (vals : List Val) (ex ow : Bool), x = [.n id, .n ver, .ref Z2 v 0 (List.length vals) (List.length vals) ex] /\ h v = some ⟨Z2, vals.map Val.c, ow, false⟩ /\ V9 vals /\ vals.length + 1 <= big /\ m <= v
structure TabV (h : Hp) (m a b c og : Nat) (cs : List ColV) (g0 gs : List Chg) (rs : List (List A)) (bx : Bool) : Prop where
 ha : ∃ ow, h a = some ⟨Z0, cs.map ColV.c, ow, false⟩
 hb : ∃ ow, h b = some ⟨Z3, g0.map Chg.c, ow, false⟩
 hc : ∃ ow, h c = some ⟨Z4, rs, ow, bx⟩
 bx : bx = true \/ rs = []
 cs1 : SmallK cs
 cs2 : cs.length <= 100
 gs1 : gs = (g0.drop og).take gs.length
 gs2 : og + gs.length <= g0.length
 gs3 : ∀ x ∈ gs, SmallG x
 gs4 : gs.length <= 100
 rs1 : ∀ x ∈ rs, Y3g h m x
 rs2 : rs.length <= 100
 a1 : m <= a
 b1 : m <= b
 c1 : m <= c
def TabL (h : Hp) (m : Nat) (y : List A) : Prop := ∃ a b c og cs g0 gs rs bx ca cb cc ea eb ec nx, y = [.ref Z0 a 0 (List.length cs) ca ea, .ref Z3 b og (List.length gs) cb eb, .ref Z4 c 0 (List.length rs) cc ec, .n nx] /\ TabV h m a b c og cs g0 gs rs bx
theorem Zjf {h : Hp} {m k : Nat} : ∀ {rs : List (List A)}, (∀ x ∈ rs, Y3g h m x) -> ∃ (rows : List RowV) (ns : List Nat), Vr (clD h (k + 1)) rs = some (rows.map RowV.c, ns) /\ rows.length = rs.length /\ ∀ r ∈ rows, V9 r.vals /\ r.vals.length + 1 <= big
 | [], _ => ⟨[], [], rfl, rfl, fun r hr => (nomatch hr)⟩
 | x :: rs, H => by
   obtain ⟨rows, ns, h1, h2, h3⟩ := Zjf (k := k) (rs := rs) (fun y hy => H y (by simp [hy]))
   obtain ⟨id, ver, v, vals, ex, ow, rfl, hv, q1, q2, q3⟩ := H x (by simp)
   refine ⟨⟨id, ver, vals⟩ :: rows, [v] ++ ns, ?_, by simp [h2], fun r hr => ?_⟩
   . unfold Vr
     rw [h1]
     have hr : Z5c (clD h (k + 1)) [.n id, .n ver, cV Z2 v vals.length ex] = some ((⟨id, ver, vals⟩ : RowV).c, [v]) := by
      show bnd (clD h (k + 1) (.n id)) _ = _
      rw [show clD h (k + 1) (.n id) = some (.n id, []) from rfl]
      show bnd (bnd (clD h (k + 1) (.n ver)) _) _ = _
      rw [show clD h (k + 1) (.n ver) = some (.n ver, []) from rfl]
      show bnd (bnd (bnd (clD h (k + 1) (cV Z2 v vals.length ex)) _) _) _ = _
      have : clD h (k + 1) (cV Z2 v vals.length ex) = some (.lit Z2 (vals.map Val.c), [v]) := by
       unfold clD
       rw [hv]
       simp only [bnd, dF, dN, dO, if_true, cond_false, dI, dP (show (vals.map Val.c).length <= vals.length by simp)]
      rw [this]
      rfl
     rw [hr]
     rfl
   . rcases eK.1 hr with rfl | hr
     . exact ⟨q1, q2⟩
     . exact h3 r hr
theorem TabL.cl {h : Hp} {m : Nat} {y : List A} (L : TabL h m y) : ∃ t ns, SmallT t /\ Z5c (clD h 4) y = some (t.c, ns) := by
 obtain ⟨a, b, c, og, cs, g0, gs, rs, bx, ca, cb, cc, ea, eb, ec, nx, rfl, V⟩ := L
 obtain ⟨oa, ha⟩ := V.ha
 obtain ⟨ob, hb⟩ := V.hb
 obtain ⟨oc, hc⟩ := V.hc
 obtain ⟨rows, nr, h1, h2, h3⟩ := Zjf (k := 2) V.rs1
 have e1 : clD h 4 (.ref Z0 a 0 cs.length ca ea) = some (.lit Z0 (cs.map ColV.c), [a]) := by
  unfold clD; rw [ha]
  simp only [bnd, dF, dN, dO, if_true, cond_false, dI, dP (show (cs.map ColV.c).length <= cs.length by simp)]
 have e2 : clD h 4 (.ref Z3 b og gs.length cb eb) = some (.lit Z3 (gs.map Chg.c), [b]) := by
  unfold clD; rw [hb]
  have j0 : og + gs.length <= (g0.map Chg.c).length := by rw [dN]; exact V.gs2
  have hm : ((g0.map Chg.c).drop og).take gs.length = gs.map Chg.c := by
   rw [<- List.map_drop, <- gQ, <- V.gs1]
  simp only [bnd, j0, if_true, cond_false, hm]
 have e3 : ∃ ns, clD h 4 (.ref Z4 c 0 rs.length cc ec) = some (.lit Z4 (rows.map RowV.c), ns) := by
  unfold clD; rw [hc]
  simp only [bnd, dF, dO, if_true, dI, dP (dO rs.length)]
  cases bx with
  | true => rw [cond_true, h1]; exact ⟨_, rfl⟩
  | false =>
    have := V.bx.resolve_left (by decide)
    subst this
    have h0 : rows = [] := fE.1 h2
    rw [h0]
    exact ⟨_, rfl⟩
 obtain ⟨ns, e3⟩ := e3
 have c2 := V.cs2; have g4 := V.gs4; have r2 := V.rs2
 refine ⟨⟨cs, gs, rows, nx⟩, [a] ++ ([b] ++ (ns ++ ([] ++ []))), ⟨⟨by simp only; unfold big; omega, V.cs1⟩, by simp only; unfold big; omega, V.gs3, by simp only; unfold big; omega, by simp only; unfold big; omega, h3⟩, ?_⟩
 unfold Z5c; rw [e1]
 unfold Z5c; rw [e2]
 unfold Z5c; rw [e3]
 unfold Z5c
 rw [show clD h 4 (.n nx) = some (.n nx, []) from rfl]
 rfl
theorem TabL.mono {h h' : Hp} {m : Nat} {y : List A} (L : TabL h m y) (H : ∀ v k, m <= v -> h v = some k -> ¬ k.ty = Z1 -> h' v = some k) : TabL h' m y := by
 obtain ⟨a, b, c, og, cs, g0, gs, rs, bx, ca, cb, cc, ea, eb, ec, nx, rfl, V⟩ := L
 obtain ⟨oa, ha⟩ := V.ha
 obtain ⟨ob, hb⟩ := V.hb
 obtain ⟨oc, hc⟩ := V.hc
 refine ⟨a, b, c, og, cs, g0, gs, rs, bx, ca, cb, cc, ea, eb, ec, nx, rfl, ⟨oa, H a _ V.a1 ha (by show ¬ Z0 = Z1; decide)⟩, ⟨ob, H b _ V.b1 hb (by show ¬ Z3 = Z1; decide)⟩, ⟨oc, H c _ V.c1 hc (by show ¬ Z4 = Z1; decide)⟩, V.bx, V.cs1, V.cs2, V.gs1, V.gs2, V.gs3, V.gs4, fun x hx => ?_, V.rs2, V.a1, V.b1, V.c1⟩
 obtain ⟨id, ver, v, vals, ex, ow, rfl, hv, q1, q2, q3⟩ := V.rs1 x hx
 exact ⟨id, ver, v, vals, ex, ow, rfl, H v _ q3 hv (by show ¬ Z2 = Z1; decide), q1, q2, q3⟩
theorem TabL.nms {h : Hp} {m : Nat} {y : List A} (L : TabL h m y) {v : Nat} (hv : v ∈ Zg y) : m <= v /\ ∀ k, h v = some k -> ¬ k.ty = Z1 := by
 obtain ⟨a, b, c, og, cs, g0, gs, rs, bx, ca, cb, cc, ea, eb, ec, nx, rfl, V⟩ := L
 obtain ⟨oa, ha⟩ := V.ha
 obtain ⟨ob, hb⟩ := V.hb
 obtain ⟨oc, hc⟩ := V.hc
 have : v = a \/ v = b \/ v = c := by simpa [Zg, Yb, Yk] using hv
 rcases this with rfl | rfl | rfl
 . exact ⟨V.a1, fun k hk => by rw [ha] at hk; cases hk; show ¬ Z0 = Z1; decide⟩
 . exact ⟨V.b1, fun k hk => by rw [hb] at hk; cases hk; show ¬ Z3 = Z1; decide⟩
 . exact ⟨V.c1, fun k hk => by rw [hc] at hk; cases hk; show ¬ Z4 = Z1; decide⟩
theorem TabW.rowsL {h : Hp} {lo hi a b c : Nat} {rs : List (List A)} {bx : Bool} {t : Tab} (W : TabW h lo hi a b c rs bx t) (T : TI t) : ∀ x ∈ rs, Y3g h lo x := fun x hx => by
 obtain ⟨j, hj⟩ := eU hx
 have hl := (dU.1 hj).1
 rw [W.rows.len] at hl
 have hr : t.rows[j]? = some t.rows[j] := dS hl
 obtain ⟨v, ex, q1, q2, q3, q4⟩ := W.rows.at_ j _ hr
 rw [hj] at q1
 cases q1
 have := T.small.vals _ (eV hl)
 exact ⟨_, _, v, _, ex, true, rfl, q2, this.1, this.2, q3⟩
theorem TabW.loose {h : Hp} {lo hi a b c : Nat} {rs : List (List A)} {bx : Bool} {t : Tab} (W : TabW h lo hi a b c rs bx t) (T : TI t) : TabV h lo a b c 0 t.first t.chg t.chg rs bx := by
 have l1 := (Z6x T.shape).2
 have l2 := T.chg; have l3 := T.rows; have l4 := W.rows.len
 exact ⟨⟨true, W.ha⟩, ⟨true, W.hb⟩, ⟨true, W.hc⟩, W.bx, T.small.cols.txt, by omega, by simp, by simp, T.small.chg, by omega, W.rowsL T, by omega, W.a1, W.b1, W.c1⟩
structure BnI (ns : List Int) (b m q5 n p : Nat) (h : Hp) (s : Nat -> A) (H : Hp) (t : Tab) (a c g : Nat) (ea eg ec : Bool) (rs : List (List A)) (bx : Bool) : Prop where
 s0 : s 0 = .ptr b 0 0
 s4 : s 4 = .ptr (m + 1) 0 0
 s5 : s 5 = .ptr q5 0 0
 s6 : s 6 = .n (t.rows.length : Nat)
 h5 : H q5 = cT Z1 [Zf a g c ea eg ec t]
 h1 : H (m + 1) = cT Z1 [Vd (m + 2) (m + 3) (m + 4) false false false]
 W : TabW H (m + 9) q5 a g c rs bx t
 hb : H b = rdB ns p
 low : ∀ v, v < m -> ¬ v = b -> H v = h v
 q1 : m + 9 <= q5
 q2 : n = q5 + 4
 ds : Dist rs
structure BnO (ns : List Int) (b m q5 p : Nat) (h : Hp) (s : Nat -> A) (H : Hp) (y : List A) : Prop where
 s4 : s 4 = .ptr (m + 1) 0 0
 s5 : s 5 = .ptr q5 0 0
 h5 : H q5 = cT Z1 [y]
 h1 : H (m + 1) = cT Z1 [Vd (m + 2) (m + 3) (m + 4) false false false]
 L : TabL H m y
 rd : ∃ p', p' <= p + 50 /\ H b = rdB ns p'
 low : ∀ v, v < m -> ¬ v = b -> H v = h v
set_option maxHeartbeats 4000000 in
theorem Yem {D : Nat} (hD : 2 <= D) (ns : List Int) (hc : Code ns) (p : Nat) (y : List A) (t : Tab) (T : TI t) (h : Hp) (b lo m : Nat) (hb : b < m) (hlo : lo <= m) (hrd : h b = rdB ns p) (hy : TabG h lo m y t) :
 ∃ s H q5 a c g ea eg ec rs bx, Zj (aH D) Zo.code ⟨slots [.ptr b 0 0, .agg y], h, m, m⟩ = Zj (aH D) (Zs 3 Zo.code) ⟨s, H, q5 + 4, m⟩ /\ BnI ns b m q5 (q5 + 4) p h s H t a c g ea eg ec rs bx := by
 obtain ⟨a, b_, c, ea, eb, ec, rs, bx, rfl, W⟩ := hy
 have h0 : ∃ s H, Zj (aH D) (hdQ (Zs 0 Zo.code)) ⟨slots [.ptr b 0 0, .agg (Zf a b_ c ea eb ec t)], h, m, m⟩ = some (.norm ⟨s, H, m + 5, m⟩) /\ s 0 = .ptr b 0 0 /\ s 3 = .ptr m 0 0 /\ s 4 = .ptr (m + 1) 0 0 /\ H m = cT Z1 [Zf a b_ c ea eb ec t] /\ H (m + 1) = cT Z1 [Vd (m + 2) (m + 3) (m + 4) false false false] /\ ∀ y, y < m -> H y = h y := by
  simp only [Zo, hdQ, Zs, go_sem]
  refine ⟨_, _, rfl, ?_, ?_, ?_, ?_, ?_, fun y hy => ?_⟩
  . simp only [go_sem]
  . simp only [go_sem]
  . simp only [go_sem]
  . simp only [go_sem]
  . simp only [go_sem]
  . have Y := Z8 hy
    simp only [go_sem, Y.a]
 obtain ⟨s0, H0, e0, a0, a3, a4, b1, b2, b3⟩ := h0
 have j2 : TabG H0 0 (m + 9) (Zf a b_ c ea eb ec t) t := ⟨a, b_, c, ea, eb, ec, rs, bx, rfl, W.mono (dG _) (by omega) (fun y k _ q2 q3 _ => by rw [b3 y q2]; exact q3)⟩
 obtain ⟨x, Hx, nx, e5, X, Ds, j4, j0⟩ := Znd (show 1 <= D by omega) (Zf a b_ c ea eb ec t) t H0 (m + 9) j2 (by have := T.rows; omega) (fun r hr => by have := (T.small.vals r hr).2; omega) (by have := T.small.clen; omega) T.small.glen
 obtain ⟨xa, xb, xc, fa, fb, fc, xs, j3, rfl, X⟩ := X
 have XA := Z8 X.a2
 have XB := Z8 X.b2
 have XC := Z8 X.c2
 have lm : (nx < m) = False := eq_false (by omega)
 have h1 : ∃ s H, Zj (aH D) (hdQ (Zs 1 Zo.code)) ⟨s0, H0, m + 5, m⟩ = some (.norm ⟨s, H, nx + 4, m⟩) /\ s 0 = .ptr b 0 0 /\ s 4 = .ptr (m + 1) 0 0 /\ s 5 = .ptr nx 0 0 /\ H nx = cT Z1 [Zf xa xb xc fa fb fc t] /\ ∀ y, y < nx -> H y = Hx y := by
  simp only [Zo, go_sem, a3, b1, e5, lm, XA.a, XB.a, XC.a]
  refine ⟨_, _, rfl, ?_, ?_, ?_, ?_, fun y hy => ?_⟩
  . simp only [go_sem, a0]
  . simp only [go_sem, a4]
  . simp only [go_sem]
  . simp only [go_sem]
  . have Y := Z8 hy
    simp only [go_sem, Y.a]
 obtain ⟨s1, H1, e1, a0, a4, a5, g1, g2⟩ := h1
 have h2 : ∃ s, Zj (aH D) (hdQ (Zs 2 Zo.code)) ⟨s1, H1, nx + 4, m⟩ = some (.norm ⟨s, H1, nx + 4, m⟩) /\ s 0 = .ptr b 0 0 /\ s 4 = .ptr (m + 1) 0 0 /\ s 5 = .ptr nx 0 0 /\ s 6 = .n (t.rows.length : Nat) := by
  simp only [Zo, go_sem, a5, g1]
  exact ⟨_, rfl, by simp only [go_sem, a0], by simp only [go_sem, a4], by simp only [go_sem, a5], by simp only [go_sem]⟩
 obtain ⟨s2, e2, a0, a4, a5, a6⟩ := h2
 have j1 := ((Xz (C := Zo.code) 0 e0 rfl).trans (Xz 1 e1 rfl)).trans (Xz 2 e2 rfl)
 rw [show Zs 0 Zo.code = Zo.code from rfl] at j1
 rw [j1]
 exact ⟨s2, H1, nx, xa, xc, xb, fa, fb, fc, xs, j3, rfl, ⟨a0, a4, a5, a6, g1, by rw [g2 _ (by omega), j0 _ (by omega)]; exact b2, X.mono (by omega) (dO _) (fun v k q1 q2 q3 _ => by rw [g2 v q2]; exact q3), by rw [g2 b (by omega), j0 b (by omega), b3 b hb]; exact hrd, fun v hv _ => by rw [g2 v (by omega), j0 v (by omega)]; exact b3 v hv, by omega, rfl, Ds _ xc _ _ _ _ _ rfl X.hc⟩⟩
set_option maxHeartbeats 4000000 in
theorem Ye5 {D : Nat} (ns : List Int) (b m q5 p : Nat) (hb : b < m) (h : Hp) (s : Nat -> A) (H : Hp) (n : Nat) (y : List A) (O : BnO ns b m q5 p h s H y) :
 ∃ h' p', Zbk (Zj (aH D) (Zs 4 Zo.code) ⟨s, H, n, m⟩) (Zo9 Zo.res) = some ([.agg y], h', n) /\ TabL h' m y /\ p' <= p + 50 /\ h' b = rdB ns p' /\ ∀ v, v < m -> ¬ v = b -> h' v = h v := by
 have L := O.L
 have nm : ∀ v ∈ Zg y, (m + 1 = v) = False := fun v hv => eq_false (by rintro rfl; exact (L.nms hv).2 _ O.h1 rfl)
 obtain ⟨a, b_, c, og, cs, g0, gs, rs, bx, ca, cb, cc, ea, eb, ec, nx, rfl, V⟩ := O.L
 have n1 := nm a (by simp [Zg, Yb, Yk])
 have n2 := nm b_ (by simp [Zg, Yb, Yk])
 have n3 := nm c (by simp [Zg, Yb, Yk])
 have o4 := O.s4; have o5 := O.s5; have h5 := O.h5; have h1 := O.h1
 obtain ⟨p', j1, j2⟩ := O.rd
 have lm : (m + 1 < m) = False := eq_false (by omega)
 have hx : ∃ s', Zj (aH D) (Zs 4 Zo.code) ⟨s, H, n, m⟩ = some (.ret ⟨s', upd H (m + 1) (cT Z1 [[.ref Z0 a 0 cs.length ca ea, .ref Z3 b_ og gs.length cb eb, .ref Z4 c 0 rs.length cc ec, .n nx]]), n, m⟩) /\ s' 4 = .ptr (m + 1) 0 0 := by
  simp only [Zo, tlQ, Zs, go_sem, o4, o5, h5, h1, n1, n2, n3, lm]
  exact ⟨_, rfl, by simp only [go_sem, o4]⟩
 obtain ⟨s', hx, t4⟩ := hx
 rw [hx]
 refine ⟨upd H (m + 1) (cT Z1 [[.ref Z0 a 0 cs.length ca ea, .ref Z3 b_ og gs.length cb eb, .ref Z4 c 0 rs.length cc ec, .n nx]]), p', ?_, L.mono (fun v k q1 q2 q3 => ?_), j1, ?_, fun v hv j0 => ?_⟩
 . simp only [Zo, go_sem, t4]
 . rw [Z7, if_neg (by rintro rfl; rw [h1] at q2; cases q2; exact q3 rfl)]; exact q2
 . rw [Z7, if_neg (by omega)]; exact j2
 . rw [Z7, if_neg (by omega)]; exact O.low v hv j0
abbrev Yea : List Int := [0, 1, 60, 61]
theorem BnI.loose {ns : List Int} {b m q5 n p : Nat} {h : Hp} {s : Nat -> A} {H : Hp} {t : Tab} {a c g : Nat} {ea eg ec : Bool} {rs : List (List A)} {bx : Bool} (I : BnI ns b m q5 n p h s H t a c g ea eg ec rs bx) (T : TI t) (nx : Int) : TabL H m [cV Z0 a t.first.length ea, cV Z3 g t.chg.length eg, cV Z4 c t.rows.length ec, .n nx] := by
 have hl := I.W.rows.len
 refine ⟨a, g, c, 0, t.first, t.chg, t.chg, rs, bx, t.first.length, t.chg.length, t.rows.length, ea, eg, ec, nx, by rw [hl], (I.W.mono (lo' := m) (by omega) (dO _) (fun _ _ _ _ q _ => q)).loose T⟩
theorem Yca {t : Tab} (T : TI t) {r : RowV} (hr : r ∈ t.rows) : r.vals.length <= 5 := by
 have N := T.now r hr
 obtain ⟨s, s', h1, -, -⟩ := N.then_
 rw [N.len, h1]
 exact (Z6x (Z0h T.shape h1)).2
set_option maxHeartbeats 4000000 in
theorem Ye3 {D : Nat} (hD : 7 <= D) (ns : List Int) (hc : Code ns) (p : Nat) (hp : p + 100 <= 2 ^ 40) (t : Tab) (T : TI t) (h : Hp) (b m q5 : Nat) (hb : b < m) (s : Nat -> A) (H : Hp) (a c g : Nat) (ea eg ec : Bool) (rs : List (List A)) (bx : Bool) (I : BnI ns b m q5 (q5 + 4) p h s H t a c g ea eg ec rs bx) :
 ∃ s' H' n' y', Zj (aH D) (hdQ (Zs 3 Zo.code)) ⟨s, H, q5 + 4, m⟩ = some (.norm ⟨s', H', n', m⟩) /\ q5 + 4 <= n' /\ BnO ns b m q5 p h s' H' y' := by
 have iq := I.q1
 have B := Z8 (show b < q5 + 4 by omega)
 obtain ⟨x, hx, e0⟩ := Wv ns hc 70 p (by omega)
 have m2 := e0 D (by omega)
 have i0 := I.s0; have i4 := I.s4; have i5 := I.s5; have i6 := I.s6; have ib := I.hb
 have h0 : ∃ s', Zj (aH D) (cLQ (hdQ (Zs 3 Zo.code))) ⟨s, H, q5 + 4, m⟩ = some (.norm ⟨s', upd H b (rdB ns (p + 1)), q5 + 4, m⟩) /\ s' 14 = .n x /\ s' 0 = .ptr b 0 0 /\ s' 4 = .ptr (m + 1) 0 0 /\ s' 5 = .ptr q5 0 0 /\ s' 6 = .n (t.rows.length : Nat) := by
  simp only [Zo, hdQ, tlQ, Zs, cLQ, go_sem, i0, ib, m2, B.l]
  exact ⟨_, rfl, by simp only [go_sem], by simp only [go_sem, i0], by simp only [go_sem, i4], by simp only [go_sem, i5], by simp only [go_sem, i6]⟩
 obtain ⟨s1, e1, j7, j0, j4, j5, j6⟩ := h0
 have I1 : BnI ns b m q5 (q5 + 4) (p + 1) h s1 (upd H b (rdB ns (p + 1))) t a c g ea eg ec rs bx := by
  refine ⟨j0, j4, j5, j6, ?_, ?_, I.W.mono (dO _) (dO _) (fun v k q1 q2 q3 _ => ?_), by rw [Z0l], fun v hv j2 => ?_, iq, rfl, I.ds⟩
  . rw [Z7, if_neg (by omega)]; exact I.h5
  . rw [Z7, if_neg (by omega)]; exact I.h1
  . rw [Z7, if_neg (by omega)]; exact q3
  . rw [Z7, if_neg j2]; exact I.low v hv j2
 have jm : Zj (aH D) (hdQ (Zs 3 Zo.code)) ⟨s, H, q5 + 4, m⟩ = Zj (aH D) (cRQ (hdQ (Zs 3 Zo.code))) ⟨s1, upd H b (rdB ns (p + 1)), q5 + 4, m⟩ := by
  show Zh2 (Zj _ (cLQ (hdQ (Zs 3 Zo.code))) _) (fun O => Zj _ (cRQ (hdQ (Zs 3 Zo.code))) O) = _
  rw [e1]
  rfl
 rw [jm]
 generalize upd H b (rdB ns (p + 1)) = H1 at *
 have L1 := fun nx => I1.loose T nx
 have h5 := I1.h5
 have h1 := I1.h1
 have jb := I1.hb
 have lm : (q5 < m) = False := eq_false (by omega)
 have m1 : (q5 = b) = False := eqF (by omega)
 have nh : (b = q5) = False := eqF (by omega)
 have one : ∀ (s' : Nat -> A) (H' : Hp) (n' p' : Nat) (y : List A), s' 4 = .ptr (m + 1) 0 0 -> s' 5 = .ptr q5 0 0 -> p' <= p + 50 -> TabL H' m y -> H' q5 = cT Z1 [y] -> H' b = rdB ns p' -> (∀ v, v < m + 2 -> ¬ v = b -> H' v = H1 v) -> BnO ns b m q5 p h s' H' y := fun s' H' n' p' y t4 t5 kh hL hq kn jr => by
  refine ⟨t4, t5, hq, by rw [jr (m + 1) (by omega) (by omega)]; exact h1, hL, ⟨p', kh, kn⟩, fun v hv j2 => by rw [jr v (by omega) j2]; exact I1.low v hv j2⟩
 have hl := I1.W.rows.len
 have V := (I1.W.mono (lo' := m) (by omega) (dO _) (fun _ _ _ _ q _ => q)).loose T
 have T8 := T.rows
 have j8 : ∀ (x' : Int), t.rows.length = 0 -> (∃ s', Zj (aH D) (cRQ (hdQ (Zs 3 Zo.code))) ⟨s1, H1, q5 + 4, m⟩ = some (.norm ⟨s', H1, q5 + 4, m⟩) /\ s' 4 = .ptr (m + 1) 0 0 /\ s' 5 = .ptr q5 0 0) -> ∃ s' H' n' y', Zj (aH D) (cRQ (hdQ (Zs 3 Zo.code))) ⟨s1, H1, q5 + 4, m⟩ = some (.norm ⟨s', H', n', m⟩) /\ q5 + 4 <= n' /\ BnO ns b m q5 p h s' H' y' := fun x' _ hx => by
  obtain ⟨s', hx, t4, t5⟩ := hx
  exact ⟨s', _, _, _, hx, dO _, one s' _ (q5 + 4) (p + 1) _ t4 t5 (by omega) (L1 t.next) h5 jb (fun v _ _ => rfl)⟩
 by_cases x0 : x = 0
 . subst x0
   have l5 := (Z6x T.shape).2
   have w1 := I1.W.a2; have w2 := I1.W.b2; have w3 := I1.W.c2
   have w4 := I1.W.a1; have w5 := I1.W.b1; have w6 := I1.W.c1
   obtain ⟨c1, k1, kx, ko, G1, n1, mg, j3, R1⟩ := Zdj (D := D) (by omega) ns hc (p + 1) (by omega) t.first (by omega) T.small.cols.txt t.first.length ea true H1 (q5 + 4) b a (by omega) (by omega) jb I1.W.ha
   obtain ⟨p1, n8, m3⟩ := R1.dr.at_
   have r1 := R1.dr.n; have mz := R1.len; have n6 := R1.q1; have mm := R1.q2
   obtain ⟨c2, k2, km, ma, G2, n2, jf, k9, R2⟩ := Zdj (D := D) (by omega) ns hc p1 (by omega) c1 (by omega) R1.sm kx ko true G1 n1 b k1 (by omega) R1.q2 m3 R1.at_
   obtain ⟨p2, mx, m0⟩ := R2.dr.at_
   have r2 := R2.dr.n; have mj := R2.len; have nf := R2.q1; have nb := R2.q2
   obtain ⟨c3, k3, ky, m9, G3, n3, k7, kk, R3⟩ := Zdj (D := D) (by omega) ns hc p2 (by omega) c2 (by omega) R2.sm km ma true G2 n2 b k2 (by omega) R2.q2 m0 R2.at_
   obtain ⟨p3, mi, kl⟩ := R3.dr.at_
   have r3 := R3.dr.n; have mn := R3.len; have my := R3.q1; have mu := R3.q2
   obtain ⟨c4, k4, k8, ke, G4, n4, ks, mr, R4⟩ := Zdj (D := D) (by omega) ns hc p3 (by omega) c3 (by omega) R3.sm ky m9 true G3 n3 b k3 (by omega) R3.q2 kl R3.at_
   obtain ⟨p4, ml, m7⟩ := R4.dr.at_
   have r4 := R4.dr.n; have nd := R4.len; have n9 := R4.q1; have mp := R4.q2
   have ji : ∀ v, v < q5 + 4 -> ¬ v = b -> G4 v = H1 v := fun v hv j2 => by rw [R4.dr.low v (by omega) j2, R3.dr.low v (by omega) j2, R2.dr.low v (by omega) j2, R1.dr.low v hv j2]
   have jw : G4 q5 = cT Z1 [Zf a g c ea eg ec t] := by rw [ji q5 (by omega) (by omega)]; exact h5
   have nk : (q5 = k4) = False := eqF (by omega)
   have hx : ∃ s', Zj (aH D) (cRQ (hdQ (Zs 3 Zo.code))) ⟨s1, H1, q5 + 4, m⟩ = some (.norm ⟨s', upd G4 q5 (cT Z1 [[.ref Z0 k4 0 c4.length k8 ke, cV Z3 g t.chg.length eg, cV Z4 c t.rows.length ec, .n t.next]]), n4, m⟩) /\ s' 4 = .ptr (m + 1) 0 0 /\ s' 5 = .ptr q5 0 0 := by
    simp only [Zo, hdQ, tlQ, Zs, cRQ, go_sem, j7, j0, j5, h5, jw, mg, jf, k7, ks, lm, nk]
    exact ⟨_, rfl, by simp only [go_sem, j4], by simp only [go_sem, j5]⟩
   obtain ⟨s', hx, t4, t5⟩ := hx
   have keep : ∀ v k, m + 9 <= v -> v < q5 -> H1 v = some k -> G4 v = some k := fun v k g1 g2 g3 => by rw [ji v (by omega) (by omega)]; exact g3
   have W4 : TabW G4 (m + 9) q5 a g c rs bx t := I1.W.mono (dO _) (dO _) (fun v k g1 g2 g3 _ => keep v k g1 g2 g3)
   have V4 := (W4.mono (lo' := m) (by omega) (dO _) (fun _ _ _ _ q _ => q)).loose T
   have L2 : TabL G4 m [.ref Z0 k4 0 c4.length k8 ke, cV Z3 g t.chg.length eg, cV Z4 c t.rows.length ec, .n t.next] :=
    ⟨k4, g, c, 0, c4, t.chg, t.chg, rs, bx, k8, t.chg.length, t.rows.length, ke, eg, ec, t.next, by rw [hl], ⟨⟨true, R4.at_⟩, V4.hb, V4.hc, V4.bx, R4.sm, by omega, V4.gs1, V4.gs2, V4.gs3, V4.gs4, V4.rs1, V4.rs2, by omega, V4.b1, V4.c1⟩⟩
   refine ⟨s', _, _, _, hx, by omega, one s' _ n4 p4 _ t4 t5 (by omega) (L2.mono (fun v k q1 q2 q3 => ?_)) (by rw [Z0l]) (by rw [Z7, if_neg (by omega)]; exact m7) (fun v hv j2 => by rw [Z7, if_neg (by omega), ji v (by omega) j2])⟩
   rw [Z7, if_neg (by rintro rfl; rw [jw] at q2; cases q2; exact q3 rfl)]
   exact q2
 . have j9 := eq_false x0
   by_cases x1 : x = 1
   . subst x1
     by_cases g0 : t.chg.length = 0
     . have hx : ∃ s', Zj (aH D) (cRQ (hdQ (Zs 3 Zo.code))) ⟨s1, H1, q5 + 4, m⟩ = some (.norm ⟨s', H1, q5 + 4, m⟩) /\ s' 4 = .ptr (m + 1) 0 0 /\ s' 5 = .ptr q5 0 0 := by
        have gz : ¬ (0 : Int) < (t.chg.length : Int) := by omega
        simp only [Zo, hdQ, tlQ, Zs, cRQ, go_sem, j7, j5, h5, j9, gz]
        exact ⟨_, rfl, by simp only [go_sem, j4], by simp only [go_sem, j5]⟩
       obtain ⟨s', hx, t4, t5⟩ := hx
       exact ⟨s', _, _, _, hx, dO _, one s' _ (q5 + 4) (p + 1) _ t4 t5 (by omega) (L1 t.next) h5 jb (fun v _ _ => rfl)⟩
     . have gz : (0 : Int) < (t.chg.length : Int) := by omega
       have g1 : (1 : Nat) <= t.chg.length := by omega
       have hx : ∃ s' cp ex, Zj (aH D) (cRQ (hdQ (Zs 3 Zo.code))) ⟨s1, H1, q5 + 4, m⟩ = some (.norm ⟨s', upd H1 q5 (cT Z1 [[cV Z0 a t.first.length ea, .ref Z3 g 1 (t.chg.length - 1) cp ex, cV Z4 c t.rows.length ec, .n t.next]]), q5 + 4, m⟩) /\ s' 4 = .ptr (m + 1) 0 0 /\ s' 5 = .ptr q5 0 0 := by
        have n1 : (q5 = g) = False := eqF (by have := I1.W.b2; omega)
        simp only [Zo, hdQ, tlQ, Zs, cRQ, go_sem, j7, j5, h5, j9, gz, g1, lm, n1, (show (0 : Int) <= 1 by decide), Int.toNat_one, dO, dF, fQ, fJ, Bool.or_false]
        exact ⟨_, _, _, rfl, by simp only [go_sem, j4], by simp only [go_sem, j5]⟩
       obtain ⟨s', cp, ex, hx, t4, t5⟩ := hx
       have hl := I1.W.rows.len
       have ka : (t.chg.drop 1).length = t.chg.length - 1 := by simp
       have L2 : TabL H1 m [cV Z0 a t.first.length ea, .ref Z3 g 1 (t.chg.length - 1) cp ex, cV Z4 c t.rows.length ec, .n t.next] := by
        refine ⟨a, g, c, 1, t.first, t.chg, t.chg.drop 1, rs, bx, t.first.length, cp, t.rows.length, ea, ex, ec, t.next, by rw [hl, ka], ⟨V.ha, V.hb, V.hc, V.bx, V.cs1, V.cs2, by rw [List.take_length], by rw [ka]; omega, fun x hx => V.gs3 x (eS hx), by rw [ka]; have := V.gs4; omega, V.rs1, V.rs2, V.a1, V.b1, V.c1⟩⟩
       refine ⟨s', _, _, _, hx, dO _, one s' _ (q5 + 4) (p + 1) _ t4 t5 (by omega) (L2.mono (fun v k q1 q2 q3 => ?_)) (by rw [Z0l]) (by rw [Z7, if_neg (by omega)]; exact jb) (fun v hv j2 => by rw [Z7, if_neg (by omega)])⟩
       rw [Z7, if_neg (by rintro rfl; rw [h5] at q2; cases q2; exact q3 rfl)]
       exact q2
   . have ja := eq_false x1
     by_cases x2 : x = 2
     . subst x2
       by_cases r0 : t.rows.length = 0
       . have rz : ¬ (0 : Int) < (t.rows.length : Int) := by omega
         refine j8 0 r0 ?_
         simp only [Zo, hdQ, tlQ, Zs, cRQ, go_sem, j7, j5, j6, h5, j9, ja, rz]
         exact ⟨_, rfl, by simp only [go_sem, j4], by simp only [go_sem, j5]⟩
       . have rz : (0 : Int) < (t.rows.length : Int) := by omega
         have jj : bx = true := I1.W.bx.resolve_right (by rintro rfl; simp at hl; omega)
         subst jj
         obtain ⟨k', jz, e2⟩ := Wv ns hc (t.rows.length : Int) (p + 1) (by omega)
         have kw := jz.1 (by omega)
         obtain ⟨k, rfl⟩ : ∃ k : Nat, k' = (k : Int) := ⟨k'.toNat, by omega⟩
         have hk : k < t.rows.length := by omega
         obtain ⟨vr, mq, e3⟩ := Ztp ns hc [-1, 0, (t.chg.length : Int), 9] (by simp) (p + 2) (by omega)
         have jy : t.rows[k]? = some t.rows[k] := dS hk
         obtain ⟨v, ev, jc, hv, v1, v2⟩ := I1.W.rows.at_ k _ jy
         have jn := T.small.vals _ (eV hk)
         generalize t.rows[k] = r at *
         have w1 := I1.W.c2; have w2 := I1.W.a2; have w3 := I1.W.b2; have w4 := I1.W.c1; have w5 := I1.W.a1; have w6 := I1.W.b1
         have b4 : b < q5 + 4 := by omega
         have js := e2 D (by omega) H1 (q5 + 4) b b4 jb
         have ju : upd H1 b (rdB ns (p + 2)) b = rdB ns (p + 2) := by rw [Z0l]
         have ki := e3 D (by omega) (upd H1 b (rdB ns (p + 2))) (q5 + 4) b b4 ju
         simp only [fO, dJ] at ki
         have k1 : Z28 [q5] H1 (upd H1 b (rdB ns (p + 2))) := fun x hx => by rw [dX.1 hx, Z7, if_neg (by omega)]
         have k2 : Z28 [q5] (upd H1 b (rdB ns (p + 2))) (upd (upd H1 b (rdB ns (p + 2))) b (rdB ns (p + 3))) := fun x hx => by rw [dX.1 hx]; exact (Y3d (show q5 ≠ b by omega) _ _).symm
         have jf := Zab (aH D) [q5] _ _ H1 (q5 + 4) js k1
         have k7 := Zab (aH D) [q5] _ _ _ (q5 + 4) ki k2
         have jp : upd H1 b (rdB ns (p + 2)) q5 = cT Z1 [Zf a g c ea eg ec t] := by rw [Z7, if_neg (by omega)]; exact h5
         have kk : upd (upd H1 b (rdB ns (p + 2))) b (rdB ns (p + 3)) c = some ⟨Z4, rs, true, true⟩ := by rw [Z7, if_neg (by omega), Z7, if_neg (by omega)]; exact I1.W.hc
         have kg : ∀ v, ¬ v = b -> upd (upd H1 b (rdB ns (p + 2))) b (rdB ns (p + 3)) v = H1 v := fun v hv => by rw [Z7, if_neg hv, Z7, if_neg hv]
         have kz : upd (upd H1 b (rdB ns (p + 2))) b (rdB ns (p + 3)) b = rdB ns (p + 3) := by rw [Z0l]
         generalize upd (upd H1 b (rdB ns (p + 2))) b (rdB ns (p + 3)) = H3 at *
         generalize upd H1 b (rdB ns (p + 2)) = H2 at *
         have kt := eQ k
         have k0 := eP k
         have lc : (c < m) = False := eq_false (by omega)
         have hx : ∃ s', Zj (aH D) (cRQ (hdQ (Zs 3 Zo.code))) ⟨s1, H1, q5 + 4, m⟩ = some (.norm ⟨s', upd H3 c (some ⟨Z4, rs.set k [.n r.id, .n vr, cV Z2 v r.vals.length ev], true, true⟩), q5 + 4, m⟩) /\ s' 4 = .ptr (m + 1) 0 0 /\ s' 5 = .ptr q5 0 0 := by
          simp only [Zo, hdQ, tlQ, Zs, cRQ, go_sem, j7, j0, j5, j6, h5, jp, kk, jc, hk, kt, k0, rz, jf, k7, j9, ja]
          exact ⟨_, rfl, by simp only [go_sem, j4], by simp only [go_sem, j5]⟩
         obtain ⟨s', hx, t4, t5⟩ := hx
         have j2 : ∀ w, ¬ w = c -> ¬ w = b -> upd H3 c (some ⟨Z4, rs.set k [.n r.id, .n vr, cV Z2 v r.vals.length ev], true, true⟩) w = H1 w := fun w h1 h2 => by rw [Z7, if_neg h1, kg w h2]
         have j3 := I1.W.hc
         have kq : ∀ w kb, m + 9 <= w -> H1 w = some kb -> ¬ kb.ty = Z4 -> upd H3 c (some ⟨Z4, rs.set k [.n r.id, .n vr, cV Z2 v r.vals.length ev], true, true⟩) w = some kb := fun w kb hw h2 h3 => by
          rw [j2 w (by rintro rfl; rw [j3] at h2; cases h2; exact h3 rfl) (by omega)]; exact h2
         have jh : ∀ x ∈ rs.set k [.n r.id, .n vr, cV Z2 v r.vals.length ev], Y3g (upd H3 c (some ⟨Z4, rs.set k [.n r.id, .n vr, cV Z2 v r.vals.length ev], true, true⟩)) m x := fun x hx => by
          rcases fB hx with hx | rfl
          . obtain ⟨id, ver, u, vals, jo, ow, rfl, hu, z1, z2, z3⟩ := I1.W.rowsL T x hx
            exact ⟨id, ver, u, vals, jo, ow, rfl, kq u _ z3 hu (by show ¬ Z2 = Z4; decide), z1, z2, by omega⟩
          . exact ⟨r.id, vr, v, r.vals, ev, true, rfl, kq v _ v1 hv (by show ¬ Z2 = Z4; decide), jn.1, jn.2, by omega⟩
         have L2 : TabL (upd H3 c (some ⟨Z4, rs.set k [.n r.id, .n vr, cV Z2 v r.vals.length ev], true, true⟩)) m (Zf a g c ea eg ec t) :=
          ⟨a, g, c, 0, t.first, t.chg, t.chg, rs.set k [.n r.id, .n vr, cV Z2 v r.vals.length ev], true, t.first.length, t.chg.length, t.rows.length, ea, eg, ec, t.next, by rw [dK, hl], ⟨⟨true, kq a _ w5 I1.W.ha (by show ¬ Z0 = Z4; decide)⟩, ⟨true, kq g _ w6 I1.W.hb (by show ¬ Z3 = Z4; decide)⟩, ⟨true, by rw [Z0l]⟩, .inl rfl, V.cs1, V.cs2, V.gs1, V.gs2, V.gs3, V.gs4, jh, by rw [dK]; exact V.rs2, V.a1, V.b1, V.c1⟩⟩
         exact ⟨s', _, _, _, hx, dO _, one s' _ (q5 + 4) (p + 3) _ t4 t5 (by omega) L2 (by rw [j2 q5 (by omega) (by omega)]; exact h5) (by rw [Z7, if_neg (by omega)]; exact kz) (fun w hw jt => j2 w (by omega) jt)⟩
     . have jd := eq_false x2
       by_cases x3 : x = 3
       . subst x3
         by_cases r0 : t.rows.length = 0
         . have rz : ¬ (0 : Int) < (t.rows.length : Int) := by omega
           refine j8 0 r0 ?_
           simp only [Zo, hdQ, tlQ, Zs, cRQ, go_sem, j7, j5, j6, h5, j9, ja, jd, rz]
           exact ⟨_, rfl, by simp only [go_sem, j4], by simp only [go_sem, j5]⟩
         . have rz : (0 : Int) < (t.rows.length : Int) := by omega
           have r1 : 0 < t.rows.length := by omega
           have jj : bx = true := I1.W.bx.resolve_right (by rintro rfl; simp at hl; omega)
           subst jj
           have kf : t.rows[0]? = some t.rows[0] := dS r1
           obtain ⟨v, ev, jc, hv, v1, v2⟩ := I1.W.rows.at_ 0 _ kf
           generalize t.rows[0] = r at *
           have j3 := I1.W.hc
           have kr : rs.take t.rows.length = rs := dP (by omega)
           have k6 : t.rows.length + 1 <= big := by unfold big; omega
           have RC := Z8 (show c < q5 + 4 by have := I1.W.c2; omega)
           have RQ := Z8 (show q5 < q5 + 4 by omega)
           have w1 := I1.W.c2; have w2 := I1.W.a2; have w3 := I1.W.b2; have w4 := I1.W.c1
           have n1 : (q5 = g) = False := eqF (by omega)
           have n2 : (q5 = a) = False := eqF (by omega)
           have n3 : (q5 = c) = False := eqF (by omega)
           have mb : (c = q5) = False := eqF (by omega)
           have hx : ∃ s' H', Zj (aH D) (cRQ (hdQ (Zs 3 Zo.code))) ⟨s1, H1, q5 + 4, m⟩ = some (.norm ⟨s', H', q5 + 6, m⟩) /\ s' 4 = .ptr (m + 1) 0 0 /\ s' 5 = .ptr q5 0 0 /\ H' q5 = cT Z1 [[cV Z0 a t.first.length ea, cV Z3 g t.chg.length eg, .ref Z4 (q5 + 5) 0 (t.rows.length + 1) (t.rows.length + 1) false, .n t.next]] /\ H' (q5 + 5) = some ⟨Z4, rs ++ [Zhn r v ev], true, true⟩ /\ ∀ w, w < q5 -> ¬ w = c -> H' w = H1 w := by
            simp only [Zo, hdQ, tlQ, Zs, cRQ, go_sem, j7, j5, j6, h5, j3, jc, hl, kr, k6, rz, j9, ja, jd, lm, n3, RC.e, RQ.e, imp, dO, gU, Int.toNat_zero]
            refine ⟨_, _, rfl, ?_, ?_, ?_, ?_, fun w hw j2 => ?_⟩
            . simp only [go_sem, j4]
            . simp only [go_sem, j5]
            . simp only [go_sem]
            . simp only [go_sem]
            . have Y := Z8 hw
              simp only [go_sem, j2, Y.a]
           obtain ⟨s', H', hx, t4, t5, g1, g2, g3⟩ := hx
           have kp : ∀ w k, w < q5 -> H1 w = some k -> ¬ k.ty = Z4 -> H' w = some k := fun w k hw h2 h3 => by
            rw [g3 w hw (by rintro rfl; rw [j3] at h2; cases h2; exact h3 rfl)]; exact h2
           have L2 : TabL H' m [cV Z0 a t.first.length ea, cV Z3 g t.chg.length eg, .ref Z4 (q5 + 5) 0 (t.rows.length + 1) (t.rows.length + 1) false, .n t.next] := by
            have jh : ∀ x ∈ rs, Y3g H' m x := fun x hx => by
             have hj := eU hx
             obtain ⟨j, hj⟩ := hj
             have k5 := (dU.1 hj).1
             rw [hl] at k5
             have hr : t.rows[j]? = some t.rows[j] := dS k5
             obtain ⟨u, eu, u1, u2, u3, u4⟩ := I1.W.rows.at_ j _ hr
             rw [hj] at u1
             cases u1
             have := T.small.vals _ (eV k5)
             exact ⟨_, _, u, _, eu, true, rfl, kp u _ u4 u2 (by show ¬ Z2 = Z4; decide), this.1, this.2, by omega⟩
            have me : Zhn r v ev ∈ rs := dY jc
            refine ⟨a, g, q5 + 5, 0, t.first, t.chg, t.chg, rs ++ [Zhn r v ev], true, t.first.length, t.chg.length, t.rows.length + 1, ea, eg, false, t.next, by simp [hl], ⟨⟨true, kp a _ I1.W.a2 I1.W.ha (by show ¬ Z0 = Z4; decide)⟩, ⟨true, kp g _ I1.W.b2 I1.W.hb (by show ¬ Z3 = Z4; decide)⟩, ⟨true, g2⟩, .inl rfl, V.cs1, V.cs2, V.gs1, V.gs2, V.gs3, V.gs4, fun x hx => ?_, by simp; omega, V.a1, V.b1, by omega⟩⟩
            rcases dW.1 hx with hx | hx
            . exact jh x hx
            . rw [dX] at hx; subst hx; exact jh _ me
           exact ⟨s', H', _, _, hx, by omega, one s' H' (q5 + 6) (p + 1) _ t4 t5 (by omega) L2 g1 (by rw [g3 b (by omega) (by omega)]; exact jb) (fun w hw j2 => g3 w (by omega) (by omega))⟩
       . have jl := eq_false x3
         by_cases x4 : x = 4
         . subst x4
           obtain ⟨nx, ms, e2⟩ := Ztp ns hc Yea (by decide) (p + 1) (by omega)
           have jf := e2 D (by omega)
           simp only [fO, dJ] at jf
           have hx : ∃ s', Zj (aH D) (cRQ (hdQ (Zs 3 Zo.code))) ⟨s1, H1, q5 + 4, m⟩ = some (.norm ⟨s', upd (upd H1 b (rdB ns (p + 2))) q5 (cT Z1 [[cV Z0 a t.first.length ea, cV Z3 g t.chg.length eg, cV Z4 c t.rows.length ec, .n nx]]), q5 + 4, m⟩) /\ s' 4 = .ptr (m + 1) 0 0 /\ s' 5 = .ptr q5 0 0 := by
            simp only [Zo, hdQ, tlQ, Zs, cRQ, go_sem, j7, j0, j5, j6, h5, jb, jf, j9, ja, jd, jl, m1, B.l]
            exact ⟨_, rfl, by simp only [go_sem, j4], by simp only [go_sem, j5]⟩
           obtain ⟨s', hx, t4, t5⟩ := hx
           refine ⟨s', _, _, _, hx, dO _, one s' _ (q5 + 4) (p + 2) _ t4 t5 (by omega) ((L1 nx).mono (fun v k q1 q2 q3 => ?_)) (by rw [Z0l]) (by rw [Z7, if_neg (by omega), Z0l]) (fun v hv j2 => by rw [Z7, if_neg (by omega), Z7, if_neg j2])⟩
           rw [Z7, if_neg (by rintro rfl; rw [h5] at q2; cases q2; exact q3 rfl), Z7, if_neg (by omega)]
           exact q2
         . have jq := eq_false x4
           by_cases x5 : x = 5
           . subst x5
             by_cases r0 : t.rows.length = 0
             . have rz : ¬ (0 : Int) < (t.rows.length : Int) := by omega
               refine j8 0 r0 ?_
               simp only [Zo, hdQ, tlQ, Zs, cRQ, go_sem, j7, j5, j6, h5, j9, ja, jd, jl, jq, rz]
               exact ⟨_, rfl, by simp only [go_sem, j4], by simp only [go_sem, j5]⟩
             . have rz : (0 : Int) < (t.rows.length : Int) := by omega
               have jj : bx = true := I1.W.bx.resolve_right (by rintro rfl; simp at hl; omega)
               subst jj
               obtain ⟨k', jz, e2⟩ := Wv ns hc (t.rows.length : Int) (p + 1) (by omega)
               have kw := jz.1 (by omega)
               obtain ⟨k, rfl⟩ : ∃ k : Nat, k' = (k : Int) := ⟨k'.toNat, by omega⟩
               have hk : k < t.rows.length := by omega
               have jy : t.rows[k]? = some t.rows[k] := dS hk
               obtain ⟨v, ev, jc, hv, v1, v2⟩ := I1.W.rows.at_ k _ jy
               have jn := T.small.vals _ (eV hk)
               have mt := Yca T (eV hk)
               have dst := I1.ds
               generalize t.rows[k] = r at *
               have w1 := I1.W.c2; have w2 := I1.W.a2; have w3 := I1.W.b2; have w4 := I1.W.c1; have w5 := I1.W.a1; have w6 := I1.W.b1
               have j3 := I1.W.hc; have je := I1.W.ha; have jg := I1.W.hb
               have js := e2 D (by omega) H1 (q5 + 4) b (by omega) jb
               have j1 : ∀ w, ¬ w = b -> upd H1 b (rdB ns (p + 2)) w = H1 w := fun w hw => by rw [Z7, if_neg hw]
               have jp := (j1 q5 (by omega)).trans h5
               have k9 := (j1 c (by omega)).trans j3
               have kd := (j1 v (by omega)).trans hv
               have ju : upd H1 b (rdB ns (p + 2)) b = rdB ns (p + 2) := by rw [Z0l]
               generalize upd H1 b (rdB ns (p + 2)) = H2 at *
               have kt := eQ k
               have k0 := eP k
               have lc : (c < m) = False := eq_false (by omega)
               have VX := Z8 v2
               have CX := Z8 w1
               have n1 : (v = c) = False := eqF (by rintro rfl; rw [hv] at j3; cases j3)
               have ku : (c = v) = False := eqF (by rintro rfl; rw [hv] at j3; cases j3)
               have n2 : (v = q5) = False := eqF (by omega)
               have mo : (q5 = v) = False := eqF (by omega)
               have n3 : (c = q5) = False := eqF (by omega)
               have mb : (q5 = c) = False := eqF (by omega)
               have n4 : (v == q5) = false := eD.2 (by omega)
               have n7 : (q5 == v) = false := eD.2 (by omega)
               have m8 := Zb Val.c r.vals
               have k6 : r.vals.length + 1 <= big := jn.2
               have hx : ∃ s' H', Zj (aH D) (cRQ (hdQ (Zs 3 Zo.code))) ⟨s1, H1, q5 + 4, m⟩ = some (.norm ⟨s', H', q5 + 6, m⟩) /\ s' 4 = .ptr (m + 1) 0 0 /\ s' 5 = .ptr q5 0 0 /\ H' c = some ⟨Z4, rs.set k [.n r.id, .n r.ver, .ref Z2 (q5 + 5) 0 (r.vals.length + 1) (r.vals.length + 1) false], true, true⟩ /\ H' (q5 + 5) = some ⟨Z2, r.vals.map Val.c ++ [Y78], true, false⟩ /\ ∀ w, w < q5 + 4 -> ¬ w = c -> ¬ w = v -> H' w = H2 w := by
                simp only [Zo, hdQ, tlQ, Zs, cRQ, go_sem, j7, j0, j5, j6, h5, jp, k9, kd, jc, hk, kt, k0, rz, js, j9, ja, jd, jl, jq, lc, ku, n4, m8, k6, VX.a, CX.a, dN, dO]
                refine ⟨_, _, rfl, ?_, ?_, ?_, ?_, fun w hw g1 g2 => ?_⟩
                . simp only [go_sem, j4]
                . simp only [go_sem, j5]
                . simp only [go_sem]
                . simp only [go_sem, CX.k']
                . have y4 : (w = q5 + 4) = False := eqF (by omega)
                  have y5 : (w = q5 + 5) = False := eqF (by omega)
                  simp only [go_sem, g1, g2, y4, y5]
               obtain ⟨s', H', hx, t4, t5, g1, g2, g3⟩ := hx
               have keep : ∀ w kb, w < q5 -> ¬ w = v -> ¬ w = b -> H1 w = some kb -> ¬ kb.ty = Z4 -> H' w = some kb := fun w kb hw h2 h3 h4 jw => by
                rw [g3 w (by omega) (by rintro rfl; rw [j3] at h4; cases h4; exact jw rfl) h2, j1 w h3]; exact h4
               have jh : ∀ x ∈ rs.set k [.n r.id, .n r.ver, .ref Z2 (q5 + 5) 0 (r.vals.length + 1) (r.vals.length + 1) false], Y3g H' m x := fun x hx => by
                obtain ⟨j, hj⟩ := eU hx
                rw [List.getElem?_set] at hj
                by_cases hkj : k = j
                . rw [if_pos hkj] at hj
                  split at hj
                  . cases hj
                    refine ⟨r.id, r.ver, q5 + 5, r.vals ++ [zV], false, true, by simp, by rw [g2]; simp [Y78, zV, Val.c], fun y hy => ?_, by simp; unfold big; omega, by omega⟩
                    rcases dW.1 hy with hy | hy
                    . exact jn.1 y hy
                    . rw [dX] at hy; subst hy; show (0 : Nat) <= big; omega
                  . cases hj
                . rw [if_neg hkj] at hj
                  obtain ⟨r', u, eu, e1, u1, u2⟩ := I1.W.rows.nm hj
                  obtain ⟨id, ver, u', vals, jo, ow, e3, hu, z1, z2, z3⟩ := I1.W.rowsL T x (dY hj)
                  have jv : ¬ u' = v := by
                   rintro rfl
                   exact hkj (dst k j _ x u' jc hj rfl (by rw [e3]; rfl))
                  have kj : u' < q5 := by
                   rw [e1] at e3
                   have : u = u' := by injection e3 with _ e3; injection e3 with _ e3; injection e3 with e3 _; injection e3
                   omega
                  exact ⟨id, ver, u', vals, jo, ow, e3, keep u' _ kj jv (by omega) hu (by show ¬ Z2 = Z4; decide), z1, z2, by omega⟩
               have na : ¬ a = v := by rintro rfl; rw [hv] at je; cases je
               have ng : ¬ g = v := by rintro rfl; rw [hv] at jg; cases jg
               have L2 : TabL H' m (Zf a g c ea eg ec t) :=
                ⟨a, g, c, 0, t.first, t.chg, t.chg, _, true, t.first.length, t.chg.length, t.rows.length, ea, eg, ec, t.next, by rw [dK, hl], ⟨⟨true, keep a _ w2 na (by omega) je (by show ¬ Z0 = Z4; decide)⟩, ⟨true, keep g _ w3 ng (by omega) jg (by show ¬ Z3 = Z4; decide)⟩, ⟨true, g1⟩, .inl rfl, V.cs1, V.cs2, V.gs1, V.gs2, V.gs3, V.gs4, jh, by rw [dK]; exact V.rs2, V.a1, V.b1, V.c1⟩⟩
               exact ⟨s', H', _, _, hx, by omega, one s' H' (q5 + 6) (p + 2) _ t4 t5 (by omega) L2 (by rw [g3 q5 (by omega) (by omega) (by omega)]; exact jp) (by rw [g3 b (by omega) (by omega) (by omega)]; exact ju) (fun w hw jt => by rw [g3 w (by omega) (by omega) (by omega)]; exact j1 w jt)⟩
           . have jx := eq_false x5
             by_cases x6 : x = 6
             . subst x6
               by_cases r0 : t.rows.length = 0
               . have rz : ¬ (0 : Int) < (t.rows.length : Int) := by omega
                 have mw : ¬ 0 < t.rows.length := by omega
                 have kc : rs = [] := fE.1 (by omega)
                 subst kc
                 have j3 := I1.W.hc
                 refine j8 0 r0 ?_
                 simp only [Zo, hdQ, tlQ, Zs, cRQ, go_sem, j7, j5, j6, h5, j3, j9, ja, jd, jl, jq, jx, rz]
                 exact ⟨_, rfl, by simp only [go_sem, j4], by simp only [go_sem, j5]⟩
               . have rz : (0 : Int) < (t.rows.length : Int) := by omega
                 have r1 : 0 < t.rows.length := by omega
                 have jj : bx = true := I1.W.bx.resolve_right (by rintro rfl; simp at hl; omega)
                 subst jj
                 have kf : t.rows[0]? = some t.rows[0] := dS r1
                 obtain ⟨v, ev, jc, hv, v1, v2⟩ := I1.W.rows.at_ 0 _ kf
                 have jn := T.small.vals _ (eV r1)
                 generalize t.rows[0] = r at *
                 have j3 := I1.W.hc; have je := I1.W.ha; have jg := I1.W.hb
                 have w1 := I1.W.c2; have w2 := I1.W.a2; have w3 := I1.W.b2; have w4 := I1.W.c1; have w5 := I1.W.a1; have w6 := I1.W.b1
                 by_cases z0 : r.vals.length = 0
                 . have zz : ¬ (0 : Int) < (r.vals.length : Int) := by omega
                   have hx : ∃ s', Zj (aH D) (cRQ (hdQ (Zs 3 Zo.code))) ⟨s1, H1, q5 + 4, m⟩ = some (.norm ⟨s', H1, q5 + 4, m⟩) /\ s' 4 = .ptr (m + 1) 0 0 /\ s' 5 = .ptr q5 0 0 := by
                    simp only [Zo, hdQ, tlQ, Zs, cRQ, go_sem, j7, j5, j6, h5, j3, jc, j9, ja, jd, jl, jq, jx, rz, zz, Int.toNat_zero, gU, dO]
                    exact ⟨_, rfl, by simp only [go_sem, j4], by simp only [go_sem, j5]⟩
                   obtain ⟨s', hx, t4, t5⟩ := hx
                   exact ⟨s', _, _, _, hx, dO _, one s' _ (q5 + 4) (p + 1) _ t4 t5 (by omega) (L1 t.next) h5 jb (fun v _ _ => rfl)⟩
                 . have zz : (0 : Int) < (r.vals.length : Int) := by omega
                   have zn : 0 < r.vals.length := by omega
                   obtain ⟨nv, p', gg, G, mh, kh, e2⟩ := Zji ns hc (p + 1) (by omega)
                   have js := e2 D (by omega) H1 (q5 + 4) b (by omega) jb
                   have j1 : ∀ w, w < q5 + 4 -> ¬ w = b -> mix (q5 + 4) (upd H1 b (rdB ns p')) (G H1 (q5 + 4) b) w = H1 w := fun w h1 h2 => by rw [Zhk h1, Z7, if_neg h2]
                   have mc : ∀ x ∈ Zn rs, x < q5 /\ m + 9 <= x := fun x hx => by
                    obtain ⟨-, q1, q2⟩ := I1.W.rows.val hx
                    exact ⟨q2, q1⟩
                   have kb : ∀ x ∈ (q5 :: a :: g :: c :: Zn rs), x < q5 + 4 /\ ¬ x = b := fun x hx => by
                    simp only [eK] at hx
                    rcases hx with rfl | rfl | rfl | rfl | hx
                    . omega
                    . omega
                    . omega
                    . omega
                    . have := mc x hx; omega
                   have jf := Zab (aH D) (q5 :: a :: g :: c :: Zn rs) _ _ H1 (q5 + 4) js (fun x hx => (j1 x (kb x hx).1 (kb x hx).2).symm)
                   have jp := (j1 q5 (by omega) (by omega)).trans h5
                   have k9 := (j1 c (by omega) (by omega)).trans j3
                   have kd := (j1 v (by omega) (by omega)).trans hv
                   have ju : mix (q5 + 4) (upd H1 b (rdB ns p')) (G H1 (q5 + 4) b) b = rdB ns p' := by rw [Zhk (by omega), Z0l]
                   generalize mix (q5 + 4) (upd H1 b (rdB ns p')) (G H1 (q5 + 4) b) = H2 at *
                   have lc : (c < m) = False := eq_false (by omega)
                   have md : (r.vals.map Val.c)[0]? = some (r.vals[0]'zn).c := by rw [eN, dS zn]; rfl
                   have hx : ∃ s', Zj (aH D) (cRQ (hdQ (Zs 3 Zo.code))) ⟨s1, H1, q5 + 4, m⟩ = some (.norm ⟨s', upd H2 v (some ⟨Z2, (r.vals.map Val.c).set 0 nv.c, true, false⟩), q5 + 4 + gg, m⟩) /\ s' 4 = .ptr (m + 1) 0 0 /\ s' 5 = .ptr q5 0 0 := by
                    simp only [Zo, hdQ, tlQ, Zs, cRQ, go_sem, j7, j0, j5, j6, h5, je, jg, j3, jc, kd, md, jf, j9, ja, jd, jl, jq, jx, rz, zz, Int.toNat_zero, gU, dO]
                    exact ⟨_, rfl, by simp only [go_sem, j4], by simp only [go_sem, j5]⟩
                   obtain ⟨s', hx, t4, t5⟩ := hx
                   have hset : (r.vals.map Val.c).set 0 nv.c = (r.vals.set 0 nv).map Val.c := by rw [gN]
                   have keep : ∀ w kb, w < q5 -> ¬ w = v -> ¬ w = b -> H1 w = some kb -> upd H2 v (some ⟨Z2, (r.vals.map Val.c).set 0 nv.c, true, false⟩) w = some kb := fun w kb hw h2 h3 h4 => by
                    rw [Z7, if_neg h2, j1 w (by omega) h3]; exact h4
                   have jh : ∀ x ∈ rs, Y3g (upd H2 v (some ⟨Z2, (r.vals.map Val.c).set 0 nv.c, true, false⟩)) m x := fun x hx => by
                    obtain ⟨j, hj⟩ := eU hx
                    obtain ⟨r', u, eu, e1, u1, u2⟩ := I1.W.rows.nm hj
                    obtain ⟨id, ver, u', vals, jo, ow, e3, hu, z1, z2, z3⟩ := I1.W.rowsL T x hx
                    have kj : u = u' := by
                     rw [e1] at e3
                     injection e3 with _ e3; injection e3 with _ e3; injection e3 with e3 _; injection e3
                    by_cases jv : u' = v
                    . subst jv
                      rw [hv] at hu
                      have mf : r.vals = vals := Zco Zto (by injection hu with hu; injection hu)
                      subst mf
                      refine ⟨id, ver, u', r.vals.set 0 nv, jo, true, by rw [dK]; exact e3, by rw [Z0l, hset], fun y hy => ?_, by rw [dK]; exact z2, by omega⟩
                      rcases fB hy with hy | rfl
                      . exact z1 y hy
                      . unfold big; omega
                    . exact ⟨id, ver, u', vals, jo, ow, e3, keep u' _ (by omega) jv (by omega) hu, z1, z2, by omega⟩
                   have na : ¬ a = v := by rintro rfl; rw [hv] at je; cases je
                   have ng : ¬ g = v := by rintro rfl; rw [hv] at jg; cases jg
                   have nc : ¬ c = v := by rintro rfl; rw [hv] at j3; cases j3
                   have L2 : TabL (upd H2 v (some ⟨Z2, (r.vals.map Val.c).set 0 nv.c, true, false⟩)) m (Zf a g c ea eg ec t) :=
                    ⟨a, g, c, 0, t.first, t.chg, t.chg, rs, true, t.first.length, t.chg.length, t.rows.length, ea, eg, ec, t.next, by rw [hl], ⟨⟨true, keep a _ w2 na (by omega) je⟩, ⟨true, keep g _ w3 ng (by omega) jg⟩, ⟨true, keep c _ w1 nc (by omega) j3⟩, .inl rfl, V.cs1, V.cs2, V.gs1, V.gs2, V.gs3, V.gs4, jh, V.rs2, V.a1, V.b1, V.c1⟩⟩
                   exact ⟨s', _, _, _, hx, by omega, one s' _ (q5 + 4 + gg) p' _ t4 t5 (by omega) L2 (by rw [Z7, if_neg (by omega)]; exact jp) (by rw [Z7, if_neg (by omega)]; exact ju) (fun w hw jt => by rw [Z7, if_neg (by omega)]; exact j1 w (by omega) jt)⟩
             . have kv := eq_false x6
               have hx : ∃ s', Zj (aH D) (cRQ (hdQ (Zs 3 Zo.code))) ⟨s1, H1, q5 + 4, m⟩ = some (.norm ⟨s', H1, q5 + 4, m⟩) /\ s' 4 = .ptr (m + 1) 0 0 /\ s' 5 = .ptr q5 0 0 := by
                simp only [Zo, hdQ, tlQ, Zs, cRQ, go_sem, j7, j9, ja, jd, jl, jq, jx, kv]
                exact ⟨_, rfl, by simp only [go_sem, j4], by simp only [go_sem, j5]⟩
               obtain ⟨s', hx, t4, t5⟩ := hx
               exact ⟨s', _, _, _, hx, dO _, one s' _ (q5 + 4) (p + 1) _ t4 t5 (by omega) (L1 t.next) h5 jb (fun v _ _ => rfl)⟩
theorem Zzu {D : Nat} (hD : 8 <= D) (ns : List Int) (hc : Code ns) (p : Nat) (hp : p + 100 <= 2 ^ 40) (y : List A) (t : Tab) (T : TI t) (h : Hp) (b lo m : Nat) (hb : b < m) (hlo : lo <= m) (hrd : h b = rdB ns p) (hy : TabG h lo m y t) :
 ∃ y' h' n' p', dcl pr D Z43 [.ptr b 0 0, .agg y] h m = some ([.agg y'], h', n') /\ TabL h' m y' /\ p' <= p + 50 /\ m <= n' /\ h' b = rdB ns p' /\ ∀ v, v < m -> ¬ v = b -> h' v = h v := by
 obtain ⟨D, rfl, hd⟩ := Zc hD
 rw [Zhx]
 obtain ⟨s, H, q5, a, c, g, ea, eg, ec, rs, bx, e1, I⟩ := Yem (D := D) (by omega) ns hc p y t T h b lo m hb hlo hrd hy
 have iq := I.q1
 obtain ⟨s', H', n', y', e2, hn, O⟩ := Ye3 (D := D) (by omega) ns hc p hp t T h b m q5 hb s H a c g ea eg ec rs bx I
 obtain ⟨h', p', e3, L, j1, j0, low⟩ := Ye5 (D := D) ns b m q5 p hb h s' H' n' y' O
 rw [e1, Xz 3 e2 rfl]
 exact ⟨y', h', n', p', e3, L, j1, by omega, j0, low⟩
set_option maxHeartbeats 4000000 in
theorem Y1g {D : Nat} (hD : 14 <= D) (ns : List Int) (hc : Code ns) (p : Nat) (hp : p + 6000 <= 2 ^ 29) (h : Hp) (m b : Nat) (hbm : b < m) (hrd : h b = rdB ns p) :
 ∃ y' h' n' p', dcl pr D Z1q [.ptr b 0 0] h m = some ([.agg y'], h', n') /\ TabL h' m y' /\ p' <= p + 3750 /\ m <= n' /\ h' b = rdB ns p' /\ ∀ v, v < m -> ¬ v = b -> h' v = h v := by
 obtain ⟨D, rfl, hd⟩ := Zc hD
 rw [Zj8]
 have h0 : ∃ s H, Zj (aH D) (hdQ (Zs 0 Z1x.code)) ⟨slots [.ptr b 0 0], h, m, m⟩ = some (.norm ⟨s, H, m + 4, m⟩) /\ s 0 = .ptr b 0 0 /\ s 2 = .ptr m 0 0 /\ H m = cT Z1 [Vd (m + 1) (m + 2) (m + 3) false false false] /\ ∀ y, y < m -> H y = h y := by
  simp only [Z1x, hdQ, Zs, go_sem]
  refine ⟨_, _, rfl, ?_, ?_, ?_, fun y hy => ?_⟩
  . simp only [go_sem]
  . simp only [go_sem]
  . simp only [go_sem]
  . have Y := Z8 hy
    simp only [go_sem, Y.a]
 obtain ⟨s0, H0, e0, a0, a2, b0, b4⟩ := h0
 obtain ⟨y, H1, n1, p1, t, e1, Y, T, ja, jd, j8, j1⟩ := Ztl (D := D) (by omega) ns hc p (by omega) H0 (m + 4) b (by omega) (by rw [b4 b hbm]; exact hrd)
 obtain ⟨y', H2, n2, p2, e2, L, je, jc, jb, j0⟩ := Zzu (D := D) (by omega) ns hc p1 (by omega) y t T H1 b (m + 4) n1 (by omega) ja j8 Y
 have j4 : H2 m = cT Z1 [Vd (m + 1) (m + 2) (m + 3) false false false] := by rw [j0 m (by omega) (by omega), j1 m (by omega) (by omega)]; exact b0
 have L' := L
 obtain ⟨a, b_, c, og, cs, g0, gs, rs, bx, ca, cb, cc, ea, eb, ec, nx, rfl, V⟩ := L'
 have v1 := V.a1; have v2 := V.b1; have v3 := V.c1
 have j9 : (m = a) = False := eqF (by omega)
 have j6 : (m = b_) = False := eqF (by omega)
 have j5 : (m = c) = False := eqF (by omega)
 have j2 := Xz (C := Z1x.code) 0 e0 rfl
 rw [show Zs 0 Z1x.code = Z1x.code from rfl] at j2
 rw [j2]
 have hx : ∃ s', Zj (aH D) (Zs 1 Z1x.code) ⟨s0, H0, m + 4, m⟩ = some (.ret ⟨s', upd H2 m (cT Z1 [[.ref Z0 a 0 cs.length ca ea, .ref Z3 b_ og gs.length cb eb, .ref Z4 c 0 rs.length cc ec, .n nx]]), n2, m⟩) /\ s' 2 = .ptr m 0 0 := by
  simp only [Z1x, tlQ, Zs, go_sem, a0, a2, e1, e2, j4, j9, j6, j5]
  exact ⟨_, rfl, by simp only [go_sem, a2]⟩
 obtain ⟨s', hx, t4⟩ := hx
 rw [hx]
 refine ⟨[.ref Z0 a 0 cs.length ca ea, .ref Z3 b_ og gs.length cb eb, .ref Z4 c 0 rs.length cc ec, .n nx], upd H2 m (cT Z1 [[.ref Z0 a 0 cs.length ca ea, .ref Z3 b_ og gs.length cb eb, .ref Z4 c 0 rs.length cc ec, .n nx]]), n2, p2, ?_, ?_, by omega, by omega, ?_, fun v hv j3 => ?_⟩
 . simp only [Z1x, go_sem, t4]
 . have L3 : TabL H2 m [.ref Z0 a 0 cs.length ca ea, .ref Z3 b_ og gs.length cb eb, .ref Z4 c 0 rs.length cc ec, .n nx] := ⟨a, b_, c, og, cs, g0, gs, rs, bx, ca, cb, cc, ea, eb, ec, nx, rfl, ⟨V.ha, V.hb, V.hc, V.bx, V.cs1, V.cs2, V.gs1, V.gs2, V.gs3, V.gs4, fun x hx => by
    obtain ⟨id, ver, u, vals, j7, ow, rfl, hu, z1, z2, z3⟩ := V.rs1 x hx
    exact ⟨id, ver, u, vals, j7, ow, rfl, hu, z1, z2, by omega⟩, V.rs2, by omega, by omega, by omega⟩⟩
   exact L3.mono (fun v k q1 q2 q3 => by rw [Z7, if_neg (by rintro rfl; rw [j4] at q2; cases q2; exact q3 rfl)]; exact q2)
 . rw [Z7, if_neg (by omega)]; exact jb
 . rw [Z7, if_neg (by omega), j0 v (by omega) j3, j1 v (by omega) j3]; exact b4 v hv
end Go.Vm.T
end
