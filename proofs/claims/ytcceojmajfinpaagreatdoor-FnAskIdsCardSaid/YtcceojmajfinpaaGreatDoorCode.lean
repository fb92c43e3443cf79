/-
  The program's functions, lowered to the abstract machine by a program of this work
-/
import Derived.Test.YtcceojmajfinpaaGreatDoorVmD
section
set_option linter.unusedVariables false
set_option linter.unusedSimpArgs false
set_option linter.unusedSectionVars false
namespace Go.Vm.T
def Ycf : Nat := 4
def Ycq : Nat := 5
def Ycp : Nat := 7
def Ych : Nat := 22
def Yw : Nat := 23
def Xw : Nat := 24
def V9 : Nat := 25
def Y97 : Nat := 26
def V6 : Nat := 27
def Ybg : Nat := 28
def Zv7 : Nat := 29
def Vf : Nat := 30
def Y1e : Nat := 34
def Z39 : Nat := 37
def Ye6 : Nat := 71
def Xe : Nat := 75
def Ys : Nat := 76
def Z1d : Nat := 86
def Z0y : Nat := 87
def Z24 : Nat := 88
def Z0f : Nat := 89
def X2 : Nat := 90
def Zah : Nat := 91
def Wk : Nat := 92
def Wi : Nat := 93
def Vg : Nat := 94
def Zo3 : Nat := 95
def Zwp : Nat := 96
def Zwu : Nat := 97
def Zxp : Nat := 98
def Zfz : Nat := 99
def Zwo : Nat := 100
def Z1e : Nat := 101
def Y1d : Nat := 102
def Vc : Nat := 103
def Z68 : Nat := 104
def Wj : Nat := 105
def Wb : Nat := 106
def Zan : Nat := 107
def Z4j : Nat := 108
def Zts : Nat := 109
def Y17 : Nat := 110
def Z1g : Nat := 111
def Z5u : Nat := 112
def Y0s : Nat := 115
def Z1y : Nat := 126
def Z63 : Nat := 128
def Vz : Nat := 129
def Z3j : Nat := 136
def Z19 : Nat := 148
def Yl : Nat := 153
def Z5j : Nat := 154
def Z4b : Nat := 162
def Z3a : Nat := 163
def Y2q : Nat := 164
def Z4i : Nat := 165
def V7 : Nat := 166
def Xk : Nat := 167
def Y2x : Nat := 168
def V5 : Nat := 169
def Wq : Nat := 170
def Xp : Nat := 171
def Zng : Nat := 172
def Y3q : Nat := 173
def V8 : Nat := 174
def Y0j : Nat := 175
def Z4m : Nat := 176
def Z18 : Nat := 177
def Z67 : Nat := 178
def Y28 : Nat := 179
def Vd : Nat := 180
def Xu : Nat := 181
def Z0c : Nat := 182
def Y9 : Nat := 183
def Y10 : Nat := 184
def Zr9 : Nat := 185
def Zq9 : Nat := 190
def Z1z : Nat := 192
def Z4f : Nat := 193
def Z25 : Nat := 194
def Z00 : Nat := 206
def Y3y : Nat := 207
def Z3d : Nat := 208
def Z3r : Nat := 209
def Z5z : Nat := 210
def Ze5 : Nat := 211
def Xb : Nat := 212
def Zz6 : Nat := 213
def Zu2 : Nat := 214
def Y0w : Nat := 215
def Wl : Nat := 216
def Z4w : Nat := 217
def Z5v : Nat := 218
def Yj : Nat := 219
def Z3m : Nat := 234
def Z66 : Nat := 235
def Z61 : Nat := 236
def Y3l : Nat := 237
def Y3o : Nat := 238
def Z1u : Nat := 239
def Zwc : Nat := 240
def Zh7 : Nat := 241
def Zhs : Nat := 242
def Zrj : Nat := 243
def Z1q : Nat := 244
def Zz5 : Nat := 245
def Zhu : Nat := 246
def Zrz : Nat := 247
def Z1p : Nat := 248
def Z4e : Nat := 249
def Z4p : Nat := 250
def Z13 : Nat := 251
def Z3p : Nat := 252
def Z12 : Nat := 261
def Z0w : Nat := 262
def Ve : Nat := 263
def Yv : Nat := 264
def Z1f : Nat := 267
def Zy : Nat := 3
def Zsj : Nat := 4
def W5 : Nat := 5
def Vl : Nat := 9
def Zd7 : Nat := 31
def Z1 : Nat := 35
def Znz : Nat := 41
def Z2 : Nat := 43
def Zb : Nat := 48
def Zp : Nat := 63
def Z0 : Nat := 69
def Z4 : Nat := 71
def Zda : Nat := 97
def Z3 : Nat := 189
def Za1 : Nat := 197
def Zk : Nat := 213
end Go.Vm.T
set_option maxRecDepth 100000
namespace Go.Vm.T
abbrev cO : A := .v (.int .i64 0)
abbrev cP : A := .v (.string ⟨#[]⟩)
abbrev cQ : A := .v (.bool false)
abbrev cN (n : Int) : Opd := .k (.v (.int .i64 n))
abbrev aA (n : Nat) (o : List G) (c : ACode) : ACode := .sq (.rg n false o) c
abbrev aB (c : Nat) (a b : ACode) : ACode := .ite (.t c) a b
abbrev aI (d : Nat) : G := .o (.mv d (.k (.v (.bool false))))
abbrev aJ (d s : Nat) : G := .o (.mv d (.t s))
abbrev aK (d x : Nat) : G := .o (.len d false (.t x))
abbrev aL (d : Nat) (o : BinOp) (x : Nat) (n : Int) : G := .o (.bin d o (.t x) (.k (.v (.int .i64 n))))
abbrev aM (d : Nat) : G := .o (.mv d (.k (.v (.bool true))))
abbrev aN (d k w f a : Nat) : G := .o (.call (some d) k w f [.t a])
abbrev aO (d x i : Nat) : G := .o (.ex d (.t x) i)
abbrev aP (n p x : Nat) : G := .o (.st n (.t p) (.t x))
abbrev aQ (d n p : Nat) : G := .o (.ld d n true (.t p))
abbrev aR (d k t n a : Nat) : G := .o (.bsl d k t n [.t a])
abbrev aS (d k w f a b : Nat) : G := .o (.call (some d) k w f [.t a, .t b])
abbrev aT (d x : Nat) : G := .o (.un d .not (.t x))
abbrev aU (d k w f a b c : Nat) : G := .o (.call (some d) k w f [.t a, .t b, .t c])
abbrev aV (s' : Nat) (d s : Nat) : G := .g s' true (.mv d (.t s))
abbrev aW (s' : Nat) (d x : Nat) : G := .g s' true (.len d false (.t x))
abbrev aX (s' : Nat) (d : Nat) (o : BinOp) (x y : Nat) : G := .g s' true (.bin d o (.t x) (.t y))
abbrev aY (s' : Nat) (d x o : Nat) : G := .g s' true (.fa d (.t x) o)
abbrev aZ (s' : Nat) (d n p : Nat) : G := .g s' true (.ld d n false (.t p))
abbrev bA (d c a : Nat) : G := .o (.pick d (.t c) (.t a) (.k (.v (.bool false))))
abbrev bB (d : Nat) (o : BinOp) (x y : Nat) : G := .o (.bin d o (.t x) (.t y))
abbrev bC (d e x i : Nat) : G := .o (.ia d e (.t x) (.t i))
abbrev bD (d n p : Nat) : G := .o (.ld d n false (.t p))
abbrev bE (d k t a b : Nat) : G := .o (.app d k t (.t a) (.t b))
abbrev bF (d : Nat) (n : Int) : G := .o (.mv d (.k (.v (.int .i64 n))))
abbrev bG (s' : Nat) (d s : Nat) : G := .g s' false (.mv d (.t s))
abbrev bH (s' : Nat) (d x : Nat) : G := .g s' false (.len d false (.t x))
abbrev bI (s' : Nat) (d : Nat) (o : BinOp) (x : Nat) (n : Int) : G := .g s' false (.bin d o (.t x) (.k (.v (.int .i64 n))))
abbrev bJ (d c a : Nat) : G := .o (.pick d (.t c) (.k (.v (.bool true))) (.t a))
abbrev bK (s' : Nat) (d n p : Nat) : G := .g s' false (.ld d n true (.t p))
abbrev bL (s' : Nat) (d k w f a : Nat) : G := .g s' false (.call (some d) k w f [.t a])
abbrev bM (s' : Nat) (d x : Nat) : G := .g s' false (.un d .not (.t x))
abbrev bN (s' : Nat) (d k w f a b : Nat) : G := .g s' false (.call (some d) k w f [.t a, .t b])
abbrev bO (d k t n : Nat) : G := .o (.bsl d k t n [])
abbrev bP (s' : Nat) (d n p : Nat) : G := .g s' true (.ld d n true (.t p))
abbrev bQ (s' : Nat) (d k w f a b : Nat) : G := .g s' true (.call (some d) k w f [.t a, .t b])
abbrev bR (s' : Nat) (d e x i : Nat) : G := .g s' true (.ia d e (.t x) (.t i))
abbrev bS (s' : Nat) (d k w f a b c : Nat) : G := .g s' true (.call (some d) k w f [.t a, .t b, .t c])
abbrev bT (d x o : Nat) : G := .o (.fa d (.t x) o)
abbrev bU (s' : Nat) (d e x i : Nat) : G := .g s' false (.ia d e (.t x) (.t i))
abbrev bV (s' : Nat) (d n p : Nat) : G := .g s' false (.ld d n false (.t p))
abbrev bW (s' : Nat) (d x o : Nat) : G := .g s' false (.fa d (.t x) o)
abbrev bX (s' : Nat) (d : Nat) (o : BinOp) (x y : Nat) : G := .g s' false (.bin d o (.t x) (.t y))
abbrev bY (s' : Nat) (d : Nat) (o : BinOp) (x : Nat) (n : Int) : G := .g s' true (.bin d o (.t x) (.k (.v (.int .i64 n))))
abbrev bZ (s' : Nat) (d c a : Nat) : G := .g s' true (.pick d (.t c) (.k (.v (.bool true))) (.t a))
abbrev cA (d f a : Nat) : G := .o (.dcall (some d) f [.t a])
abbrev cB (s' : Nat) (d f a : Nat) (n : Int) : G := .g s' true (.dcall (some d) f [.t a, .k (.v (.int .i64 n))])
abbrev cC (d f a b : Nat) : G := .o (.dcall (some d) f [.t a, .t b])
abbrev cD (d k t n a : Nat) : G := .o (.box d k t n (.t a))
abbrev cE (d k t : Nat) : G := .o (.mvn d k t)
abbrev cF (s' : Nat) (d : Nat) (l : List Nat) (a b : Nat) : G := .g s' true (.eqs d l false (.t a) (.t b))
abbrev cG (d f a : Nat) (n : Int) : G := .o (.dcall (some d) f [.t a, .k (.v (.int .i64 n))])
abbrev cH (s' : Nat) (d k w f a : Nat) : G := .g s' true (.call (some d) k w f [.t a])
abbrev cI (s' : Nat) (d c a : Nat) : G := .g s' false (.pick d (.t c) (.t a) (.k (.v (.bool false))))
abbrev cJ (d : Nat) (l : List Nat) (a b : Nat) : G := .o (.eqs d l false (.t a) (.t b))
abbrev cK (s' : Nat) (d f a : Nat) (n : Int) : G := .g s' false (.dcall (some d) f [.t a, .k (.v (.int .i64 n))])
abbrev cL (s' : Nat) (d x : Nat) : G := .g s' true (.un d .not (.t x))
abbrev cM (s' : Nat) (d : Nat) (l : List Nat) (a b : Nat) : G := .g s' false (.eqs d l true (.t a) (.t b))
attribute [go_sem] aA aB aI aJ aK aL aM aN aO aP aQ aR aS aT aU aV aW aX aY aZ bA bB bC bD bE bF bG bH bI bJ bK bL bM bN bO bP bQ bR bS bT bU bV bW bX bY bZ cA cB cC cD cE cF cG cH cI cJ cK cL cM cN cO cP cQ
abbrev aG (b c : ACode) : Prop := ∀ (E : Env) (U : St), Zg E b U = Zg E c U
def Yb7 : AFn := ⟨1, [.t 2], (aA 0 [aI 2] (.sq (aA 0 [aJ 11 0, aK 12 11, aL 13 .gtr 12 1048576] (aB 13 (aA 0 [aM 2] .rt) .sk)) (aA 8 [aJ 15 0, aN 16 0 3 Ych 15, aJ 14 16, aO 17 14 0, aO 18 14 1, aO 19 14 2, .o (.al 3 3 Z1 [(.lit Z0 []), (.lit Z3 []), (.lit Z4 []), cO]), .o (.al 5 7 Z2 [cO, cO, cP]), aP 4 3 17, aJ 4 18, aP 3 5 19] (aA 2 [aQ 20 4 3, aJ 21 4, aQ 22 3 5, .o (.bld 23 0 [cP, cO, cO, cO, cP] [(0, 1, (.t 21)), (1, 1, (cN 1)), (2, 3, (.t 22))]), aR 24 0 Zb 5 23, aS 25 1 1 Yw 20 24, aJ 6 25] (.sq (aA 2 [aJ 26 6, aQ 27 4 3, aJ 28 4, aQ 29 3 5, .o (.bld 30 0 [cP, cO, cO, cO, cP] [(0, 1, (.t 28)), (1, 1, (cN 1)), (2, 3, (.t 29))]), aR 31 0 Zb 5 30, aS 32 1 1 V9 27 31, aS 33 2 0 Xw 26 32, aT 34 33] (aB 34 (aA 0 [aI 2] .rt) .sk)) (aA 1 [aQ 35 4 3, aN 36 0 1 Y97 35, aJ 7 36] (.sq (aA 0 [aJ 37 7, aJ 38 4, aQ 39 3 5, .o (.bld 40 0 [cP, cO, cO, cO, cP] [(0, 1, (.t 38)), (1, 1, (cN 2)), (2, 3, (.t 39))]), aS 41 0 0 V6 37 40, aT 42 41] (aB 42 (aA 0 [aM 2] .rt) .sk)) (aA 2 [aQ 43 4 3, aJ 44 4, aQ 45 3 5, .o (.bld 46 0 [cP, cO, cO, cO, cP] [(0, 1, (.t 44)), (1, 1, (cN 2)), (2, 3, (.t 45))]), aR 47 0 Zb 5 46, aS 48 1 1 Yw 43 47, aJ 8 48] (aA 2 [aQ 49 4 3, aJ 50 4, aQ 51 3 5, .o (.bld 52 0 [cP, cO, cO, cO, cP] [(0, 1, (.t 50)), (1, 1, (cN 3)), (2, 3, (.t 51))]), aR 53 0 Zb 5 52, aS 54 1 1 Yw 49 53, aJ 9 54] (aA 1 [aQ 55 4 3, aJ 56 4, .o (.bld 57 0 [cO, cO, cP] []), aU 58 0 1 Ybg 55 56 57, aJ 10 58] (aA 1 [aJ 59 6, aQ 60 4 3, aJ 61 4, aQ 62 3 5, aU 63 0 1 Ybg 60 61 62, aS 64 1 0 Xw 59 63, aJ 65 64, aV 65 66 6, aW 65 67 66, aV 65 68 8, aW 65 69 68, aX 65 70 .add 67 69, aV 65 71 9, aW 65 72 71, aX 65 73 .add 70 72, aV 65 74 10, aW 65 75 74, aX 65 76 .add 73 75, aY 65 77 3 2, aZ 65 78 1 77, aW 65 79 78, aX 65 80 .eql 76 79, bA 81 65 80, aJ 2 81] .rt)))))))))))⟩
def Zlf : ACode := (.sq (aA 0 [aJ 85 13, aJ 86 10, aK 87 86, bB 88 .lss 85 87] (aB 88 .sk (.xt 2))) (.sq (.bl 3 (.sq (.rg 0 true [aJ 91 9, aJ 92 12, bC 93 Zy 91 92, bD 94 1 93, aJ 95 10, aJ 96 13, bC 97 Zy 95 96, bD 98 1 97, bB 99 .eql 94 98]) (aB 99 (.rg 2 false [aJ 100 11, aJ 101 9, aJ 102 12, bC 103 Zy 101 102, bD 104 1 103, aR 105 0 Zy 1 104, bE 106 1 Zy 100 105, aJ 11 106]) .sk))) (.rg 0 false [aJ 89 13, aL 90 .add 89 1, aJ 13 90])))
def Zyd : ACode := Zlf
theorem Zx4 : aG Zyd Zlf := fun _ _ => rfl
def Zrk : ACode := (.sq (aA 0 [aJ 79 12, aJ 80 9, aK 81 80, bB 82 .lss 79 81] (aB 82 .sk (.xt 0))) (.sq (.bl 1 (aA 0 [bF 13 0] (.bl 2 (.lp [5, 6, 7, 9, 10, 11, 12, 13] Zyd)))) (.rg 0 false [aJ 83 12, aL 84 .add 83 1, aJ 12 84])))
def Zze : ACode := Zrk
theorem Y49 : aG Zze Zrk := fun _ _ => rfl
def Y3d : AFn := ⟨2, [.t 4], (aA 0 [aI 4] (.sq (aA 0 [aJ 14 0, aK 15 14, aL 16 .gtr 15 1048576, aJ 17 16, bG 17 18 1, bH 17 19 18, bI 17 20 .gtr 19 1048576, bJ 21 17 20] (aB 21 (aA 0 [aM 4] .rt) .sk)) (aA 8 [aJ 23 0, aN 24 0 4 Zv7 23, aJ 22 24, aO 25 22 0, aO 26 22 1, .o (.al 5 4 Z1 [(.lit Z0 []), (.lit Z3 []), (.lit Z4 []), cO]), aP 4 5 25, aJ 6 26] (aA 1 [aQ 27 4 5, aJ 28 6, aS 29 0 1 Yw 27 28, aJ 7 29] (.sq (aA 1 [aJ 30 7, aQ 31 4 5, aJ 32 6, aS 33 0 1 V9 31 32, aS 34 1 0 Xw 30 33, aT 35 34, aJ 36 35, bK 36 37 4 5, bL 36 38 1 0 Vf 37, bM 36 39 38, bJ 40 36 39, aJ 41 40, bG 41 42 6, bH 41 43 42, bI 41 44 .neq 43 2, bJ 45 41 44] (aB 45 (aA 1 [aJ 46 7, aQ 47 4 5, aJ 48 6, aS 49 0 1 V9 47 48, aS 50 1 0 Xw 46 49, aJ 4 50] .rt) .sk)) (aA 1 [aQ 51 4 5, aN 52 0 1 Y97 51, aJ 8 52] (.sq (.rg 1 true [aQ 53 4 5, aJ 54 6, .o (.sl 55 (some Zb) (.t 54) none (some (cN 1)) none), aS 56 0 1 Yw 53 55, aJ 9 56]) (.sq (.rg 1 true [aQ 57 4 5, aJ 58 6, .o (.sl 59 (some Zb) (.t 58) (some (cN 1)) none none), aS 60 0 1 Yw 57 59, aJ 10 60]) (.sq (aA 0 [aJ 61 8, aJ 62 6, .o (.ia 63 Zb (.t 62) (.k cO)), aQ 64 5 63, aS 65 0 0 V6 61 64, aT 66 65, aJ 67 66, bG 67 68 8, bG 67 69 6, .g 67 false (.ia 70 Zb (.t 69) (cN 1)), bK 67 71 5 70, bN 67 72 0 0 V6 68 71, bM 67 73 72, bJ 74 67 73] (aB 74 (aA 0 [aJ 75 7, aK 76 75, aL 77 .eql 76 0, aJ 4 77] .rt) .sk)) (aA 1 [bO 78 0 Zy 1, aJ 11 78] (.sq (aA 0 [bF 12 0] (.bl 0 (.lp [5, 6, 7, 9, 10, 11, 12] Zze))) (.sq (.rg 2 true [aJ 107 11, aJ 108 7, aS 109 0 0 Xw 107 108, aJ 110 109, aV 110 111 7, bP 110 112 4 5, aV 110 113 6, .g 110 true (.ia 114 Zb (.t 113) (cN 1)), bP 110 115 5 114, aV 110 116 6, .g 110 true (.ia 117 Zb (.t 116) (.k cO)), bP 110 118 5 117, .g 110 true (.bsl 119 0 Zb 5 [(.t 115), (.t 118)]), bQ 110 120 1 1 Yw 112 119, bQ 110 121 2 0 Xw 111 120, bA 122 110 121, aJ 4 122]) .rt))))))))))))⟩
def Zld : ACode := (.sq (aA 0 [aJ 41 8, aJ 42 4, aK 43 42, bB 44 .lss 41 43] (aB 44 .sk (.xt 0))) (.sq (.bl 1 (.rg 0 false [aJ 47 7, aJ 48 47, aV 48 49 6, aV 48 50 4, aV 48 51 8, bR 48 52 Zb 50 51, bP 48 53 5 52, bQ 48 54 0 0 V6 49 53, bA 55 48 54, aJ 7 55])) (.rg 0 false [aJ 45 8, aL 46 .add 45 1, aJ 8 46])))
def Zwa : ACode := Zld
theorem Zw1 : aG Zwa Zld := fun _ _ => rfl
def Zlc : ACode := (.sq (aA 0 [aJ 79 14, aJ 80 4, aK 81 80, bB 82 .lss 79 81] (aB 82 .sk (.xt 4))) (.sq (.bl 5 (.rg 0 false [aJ 85 13, aJ 86 85, aV 86 87 6, aV 86 88 4, aV 86 89 14, bR 86 90 Zb 88 89, bP 86 91 5 90, aV 86 92 11, bS 86 93 0 0 Z39 87 91 92, bA 94 86 93, aJ 13 94])) (.rg 0 false [aJ 83 14, aL 84 .add 83 1, aJ 14 84])))
def Zw5 : ACode := Zlc
theorem Zyg : aG Zw5 Zlc := fun _ _ => rfl
def Zmn : ACode := (.sq (aA 0 [aJ 61 10, bT 62 3 2, bD 63 1 62, aK 64 63, bB 65 .lss 61 64] (aB 65 .sk (.xt 2))) (.sq (.bl 3 (.sq (.rg 1 true [aQ 69 4 3, bT 70 3 2, bD 71 1 70, aJ 72 10, bC 73 Z4 71 72, bT 74 73 0, bD 75 1 74, aS 76 0 1 Y1e 69 75, aJ 68 76, aO 77 68 0, aO 78 68 1, aJ 11 77, aJ 12 78]) (aA 0 [aM 13] (.sq (aA 0 [bF 14 0] (.bl 4 (.lp [3, 4, 5, 6, 9, 10, 11, 13, 14] Zw5))) (aA 0 [aJ 95 13] (aB 95 (.sq (.sq (.rg 0 true [aJ 96 9, aJ 97 5, aK 98 97, bB 99 .geq 96 98, aJ 100 99, bG 100 101 5, bG 100 102 9, bU 100 103 Zy 101 102, bV 100 104 1 103, bW 100 105 3 2, bV 100 106 1 105, bG 100 107 10, bU 100 108 Z4 106 107, bW 100 109 108 0, bV 100 110 1 109, bX 100 111 .neq 104 110, bJ 112 100 111]) (aB 112 (aA 0 [aI 2] .rt) .sk)) (.rg 0 false [aJ 113 9, aL 114 .add 113 1, aJ 9 114])) .sk)))))) (.rg 0 false [aJ 66 10, aL 67 .add 66 1, aJ 10 67])))
def Zvd : ACode := Zmn
theorem Zz4 : aG Zvd Zmn := fun _ _ => rfl
def Y5h : AFn := ⟨1, [.t 2], (aA 0 [aI 2] (.sq (aA 0 [aJ 15 0, aK 16 15, aL 17 .gtr 16 1048576] (aB 17 (aA 0 [aM 2] .rt) .sk)) (aA 8 [aJ 19 0, aN 20 0 4 Zv7 19, aJ 18 20, aO 21 18 0, aO 22 18 1, .o (.al 3 4 Z1 [(.lit Z0 []), (.lit Z3 []), (.lit Z4 []), cO]), aP 4 3 21, aJ 4 22] (aA 1 [aQ 23 4 3, aJ 24 4, aS 25 0 1 Yw 23 24, aJ 5 25] (.sq (aA 1 [aJ 26 5, aQ 27 4 3, aJ 28 4, aS 29 0 1 V9 27 28, aS 30 1 0 Xw 26 29, aT 31 30] (aB 31 (aA 0 [aI 2] .rt) .sk)) (aA 1 [aQ 32 4 3, aN 33 0 1 Y97 32, aJ 6 33] (aA 0 [aQ 34 4 3, aN 35 0 0 Vf 34, aJ 36 35, aV 36 37 4, aW 36 38 37, bY 36 39 .leq 38 3, bA 40 36 39, aJ 7 40] (.sq (aA 0 [bF 8 0] (.bl 0 (.lp [3, 4, 5, 6, 7, 8] Zwa))) (.sq (aA 0 [aJ 56 7, aT 57 56] (aB 57 (aA 0 [aJ 58 5, aK 59 58, aL 60 .eql 59 0, aJ 2 60] .rt) .sk)) (aA 0 [bF 9 0] (.sq (aA 0 [bF 10 0] (.bl 2 (.lp [3, 4, 5, 6, 9, 10] Zvd))) (.sq (.rg 1 true [aJ 115 9, aJ 116 5, aK 117 116, bB 118 .eql 115 117, aJ 119 118, aV 119 120 4, aW 119 121 120, bY 119 122 .eql 121 0, aV 119 123 122, bG 123 124 5, bH 123 125 124, bK 123 126 4 3, bG 123 127 4, .g 123 false (.sl 128 (some Zb) (.t 127) (some (cN 1)) none none), bN 123 129 0 1 Yw 126 128, bH 123 130 129, bX 123 131 .leq 125 130, bZ 119 132 123 131, bA 133 119 132, aJ 2 133]) .rt))))))))))))⟩
def Zxz : AFn := ⟨1, [.cell 2 4 true, .t 3, .cell 4 3 true], (aA 5 [.o (.al 2 0 Z1 [(.lit Z0 []), (.lit Z3 []), (.lit Z4 []), cO]), .o (.mv 3 (.k cP)), .o (.al 4 4 Z2 [cO, cO, cP])] (aA 0 [aJ 9 0, cA 10 Z1d 9, aJ 5 10] (aA 4 [aJ 11 5, .o (.dcs (some 12) Z0y [(.t 11)]), .o (.al 6 0 Z1 [(.lit Z0 []), (.lit Z3 []), (.lit Z4 []), cO]), aP 4 6 12] (aA 1 [aQ 13 4 6, aN 14 0 1 Z24 13, aJ 7 14] (.sq (aA 0 [aJ 15 7, aK 16 15, aL 17 .gtr 16 0, aJ 18 17, aY 18 19 6 2, aZ 18 20 1 19, aW 18 21 20, bY 18 22 .gtr 21 0, bA 23 18 22, aJ 24 23, aV 24 25 5, cB 24 26 Z0f 25 6, bY 24 27 .gtr 26 0, bA 28 24 27] (aB 28 (aA 0 [aJ 29 5, aJ 30 7, aK 31 30, cC 32 Z0f 29 31, aJ 8 32] (.sq (.rgk 1 [((.t 37), (.t 2)), ((.t 51), (.t 2)), ((.t 6), (.k .bad)), ((.t 37), (.k .bad)), ((.t 40), (.k .bad))] [6, 7] [aQ 33 4 6, aJ 34 7, aJ 35 8, bC 36 Z0 34 35, bT 37 36 0, bD 38 1 37, aQ 39 4 6, bT 40 6 2, bD 41 1 40, aJ 42 5, bT 43 6 2, bD 44 1 43, aK 45 44, cC 46 Z0f 42 45, bC 47 Z4 41 46, aQ 48 3 47, aS 49 0 1 X2 39 48, aJ 50 8, bC 51 Z2 49 50, aQ 52 3 51, aP 4 2 33, aJ 3 38, aP 3 4 52]) .rt)) .sk)) (.sq (.rgk 1 [((.t 6), (.k .bad))] [6] [aQ 53 4 6, aJ 54 5, .o (.call (some 55) 0 1 Wk []), cC 56 Zah 54 55, aJ 57 5, cA 58 Wi 57, aP 4 2 53, aJ 3 56, aP 3 4 58]) .rt))))))⟩
def Z0o : ACode := (aA 0 [bB 27 .lss 26 25] (.sq (aB 27 .sk (.xt 0)) (.sq (.bl 1 (aA 2 [bC 28 Z4 24 26, aQ 29 3 28, .o (.al 8 0 Z4 [cO, cO, (.lit Z2 [])]), aP 3 8 29] (aA 3 [aQ 30 4 2, aQ 31 3 8, aS 32 0 1 Zfz 30 31, .o (.al 9 1 Zp [(.lit Z2 [])]), aP 1 9 32] (aA 0 [aJ 33 1, .o (.mkf 34 Zwo [(.t 5), (.t 9)]), aS 35 0 0 Zwp 33 34, aT 36 35] (aB 36 (.rg 2 false [aJ 37 6, bT 38 8 0, bD 39 1 38, aR 40 0 Zy 1 39, bE 41 1 Zy 37 40, aJ 6 41]) .sk))))) (.rg 0 false [aL 42 .add 26 1, aJ 26 42]))))
def Z5l : ACode := Z0o
theorem Z51 : aG Z5l Z0o := fun _ _ => rfl
def Z0v : AFn := ⟨2, [.t 4], (aA 2 [cD 2 0 Z1 4 0, cE 4 1 Zy] (.sq (aA 0 [aQ 10 4 2, aN 11 0 0 Vg 10, aT 12 11, aJ 13 12, bG 13 14 1, bH 13 15 14, bI 13 16 .gtr 15 3, bJ 17 13 16] (aB 17 (aA 1 [cE 4 0 Zy] .rt) .sk)) (aA 3 [aQ 18 4 2, aN 19 0 1 Zo3 18, .o (.al 5 1 Zd7 [(.lit Z0 [])]), aP 1 5 19] (.sq (aA 0 [aJ 20 1, .o (.mkf 21 Zwu [(.t 5)]), aS 22 0 0 Zwp 20 21] (aB 22 (aA 1 [cE 4 0 Zy] .rt) .sk)) (aA 1 [cE 6 0 Zy] (.sq (aA 0 [bT 23 2 2, bD 24 1 23, aK 25 24, bF 26 0] (.bl 0 (.lp [1, 2, 5, 6, 24, 25, 26] Z5l))) (aA 0 [aJ 43 6, cA 44 Y1d 43, aJ 4 44] .rt)))))))⟩
def Z2e : ACode := (.sq (aA 0 [aJ 11 5, aJ 12 0, aK 13 12, bB 14 .lss 11 13] (aB 14 .sk (.xt 0))) (.sq (.bl 1 (.sq (.rg 0 true [aJ 17 0, aJ 18 5, bC 19 Zy 17 18, bD 20 1 19, aJ 21 1, aJ 22 5, bC 23 Zy 21 22, bD 24 1 23, bB 25 .neq 20 24]) (aB 25 (aA 0 [aI 4] .rt) .sk))) (.rg 0 false [aJ 15 5, aL 16 .add 15 1, aJ 5 16])))
def Z56 : ACode := Z2e
theorem Z8d : aG Z56 Z2e := fun _ _ => rfl
def Z79 : AFn := ⟨2, [.t 4], (aA 0 [aI 4] (.sq (aA 0 [aJ 6 0, aK 7 6, aJ 8 1, aK 9 8, bB 10 .neq 7 9] (aB 10 (aA 0 [aI 4] .rt) .sk)) (.sq (aA 0 [bF 5 0] (.bl 0 (.lp [0, 1, 5] Z56))) (aA 0 [aM 4] .rt))))⟩
def Z0p : ACode := (.sq (aA 0 [aJ 39 10, aJ 40 1, aK 41 40, bB 42 .lss 39 41] (aB 42 .sk (.xt 2))) (.sq (.bl 3 (.rg 0 true [aJ 45 9, aJ 46 45, aV 46 47 1, aV 46 48 10, bR 46 49 Zb 47 48, bP 46 50 5 49, aV 46 51 8, aV 46 52 6, aV 46 53 1, aV 46 54 10, bR 46 55 Zb 53 54, aY 46 56 55 0, aZ 46 57 1 56, bQ 46 58 0 0 Xe 52 57, bR 46 59 Z2 51 58, bP 46 60 3 59, bQ 46 61 0 0 Z68 50 60, bA 62 46 61, aJ 9 62])) (.rg 0 false [aJ 43 10, aL 44 .add 43 1, aJ 10 44])))
def Z58 : ACode := Z0p
theorem Z5n : aG Z58 Z0p := fun _ _ => rfl
def Z0j : ACode := (.sq (aA 0 [aJ 25 7, bT 26 2 2, bD 27 1 26, aK 28 27, bB 29 .lss 25 28] (aB 29 .sk (.xt 0))) (.sq (.bl 1 (.sq (.rg 1 true [aQ 32 4 2, bT 33 2 2, bD 34 1 33, aJ 35 7, bC 36 Z4 34 35, aQ 37 3 36, aS 38 0 1 X2 32 37, aJ 8 38]) (aA 0 [aM 9] (.sq (aA 0 [bF 10 0] (.bl 2 (.lp [1, 2, 5, 6, 7, 8, 9, 10] Z58))) (aA 0 [aJ 63 9] (aB 63 (.rg 2 false [aJ 64 5, bT 65 2 2, bD 66 1 65, aJ 67 7, bC 68 Z4 66 67, bT 69 68 0, bD 70 1 69, aR 71 0 Zy 1 70, bE 72 1 Zy 64 71, aJ 5 72]) .sk)))))) (.rg 0 false [aJ 30 7, aL 31 .add 30 1, aJ 7 31])))
def Z53 : ACode := Z0j
theorem Z5e : aG Z53 Z0j := fun _ _ => rfl
def Z28 : AFn := ⟨2, [.t 4], (aA 2 [cD 2 0 Z1 4 0, cE 4 1 Zy] (aA 1 [bO 11 0 Zy 1, aJ 5 11] (.sq (aA 1 [aQ 12 4 2, aN 13 0 0 Vf 12, aT 14 13, aJ 15 14, bK 15 16 4 2, bL 15 17 0 1 Ys 16, bG 15 18 1, bN 15 19 1 0 Vc 17 18, bM 15 20 19, bJ 21 15 20] (aB 21 (aA 0 [aJ 22 5, aJ 4 22] .rt) .sk)) (aA 1 [aQ 23 4 2, aN 24 0 1 Ys 23, aJ 6 24] (.sq (aA 0 [bF 7 0] (.bl 0 (.lp [1, 2, 5, 6, 7] Z53))) (aA 0 [aJ 73 5, aJ 4 73] .rt))))))⟩
def Ycg : AFn := ⟨1, [.t 2], (aA 2 [cD 1 0 Z1 4 0, cE 2 1 Z0] (.sq (aA 0 [aQ 3 4 1, aN 4 0 0 Vg 3, aT 5 4] (aB 5 (aA 1 [cE 2 0 Z0] .rt) .sk)) (aA 1 [aQ 6 4 1, aN 7 0 1 Zo3 6, aJ 2 7] .rt)))⟩
def Z7n : AFn := ⟨2, [.t 4], (aA 1 [cD 3 0 Zb 5 1, aI 4] (aA 0 [aJ 5 0, aN 6 0 0 Wj 5, aJ 7 6, aV 7 8 0, bP 7 9 5 3, bQ 7 10 0 0 Zxp 8 9, bA 11 7 10, aJ 4 11] .rt))⟩
def Zhi : ACode := (aA 0 [bB 22 .lss 21 20] (.sq (aB 22 .sk (.xt 0)) (.sq (.bl 1 (aA 2 [bC 23 Z4 19 21, aQ 24 3 23, .o (.al 10 0 Z4 [cO, cO, (.lit Z2 [])]), aP 3 10 24] (.sq (.rg 1 true [aJ 25 7, aL 26 .geq 25 0, aJ 27 26, bP 27 28 4 3, bP 27 29 3 10, bQ 27 30 0 1 Zfz 28 29, aV 27 31 7, bR 27 32 Z2 30 31, bP 27 33 3 32, bP 27 34 3 5, cF 27 35 [0, 0, 1] 33 34, bA 36 27 35]) (aB 36 (.rg 2 false [aJ 37 8, bT 38 10 0, bD 39 1 38, aR 40 0 Zy 1 39, bE 41 1 Zy 37 40, aJ 8 41]) .sk)))) (.rg 0 false [aL 42 .add 21 1, aJ 21 42]))))
def Zxx : ACode := Zhi
theorem Zt1 : aG Zxx Zhi := fun _ _ => rfl
def Ycl : AFn := ⟨3, [.t 6], (aA 3 [cD 3 0 Z1 4 0, cD 5 1 Z2 3 2, cE 6 2 Zy] (.sq (aA 0 [aQ 11 4 3, aN 12 0 0 Vg 11, aT 13 12] (aB 13 (aA 1 [cE 6 0 Zy] .rt) .sk)) (aA 1 [aQ 14 4 3, aN 15 0 1 Zo3 14, aJ 16 1, aS 17 1 0 Wb 15 16, aJ 7 17] (aA 1 [cE 8 0 Zy] (.sq (aA 0 [bT 18 3 2, bD 19 1 18, aK 20 19, bF 21 0] (.bl 0 (.lp [3, 5, 7, 8, 19, 20, 21] Zxx))) (aA 0 [aJ 43 8, cA 44 Y1d 43, aJ 6 44] .rt))))))⟩
def Zky : ACode := (.sq (aA 0 [aJ 16 7, aL 17 .gtr 16 0] (aB 17 .sk (.xt 0))) (.sq (.bl 1 (.rg 3 false [aJ 20 6, aJ 21 4, aQ 22 4 5, aN 23 0 1 Z24 22, cC 24 Z4j 21 23, aR 25 1 Zb 5 24, bE 26 2 Zb 20 25, aJ 6 26])) (.rg 0 false [aJ 18 7, aL 19 .sub 18 1, aJ 7 19])))
def Zeb : ACode := Zky
theorem Zzd : aG Zeb Zky := fun _ _ => rfl
def Zme : AFn := ⟨1, [.cell 2 4 true, .t 3], (aA 5 [.o (.al 2 0 Z1 [(.lit Z0 []), (.lit Z3 []), (.lit Z4 []), cO]), cE 3 4 Zb] (aA 0 [aJ 8 0, cA 9 Z1d 8, aJ 4 9] (aA 4 [aJ 10 4, .o (.dcs (some 11) Z0y [(.t 10)]), .o (.al 5 0 Z1 [(.lit Z0 []), (.lit Z3 []), (.lit Z4 []), cO]), aP 4 5 11] (aA 1 [bO 12 0 Zb 5, aJ 6 12] (.sq (aA 1 [aJ 13 4, .o (.bsl 14 0 Zy 1 [(cN 1), (cN 2), (cN 1), (cN 3), (.k cO), (cN 4)]), cC 15 Zan 13 14, aJ 7 15] (.bl 0 (.lp [2, 4, 5, 6, 7] Zeb))) (aA 0 [aQ 27 4 5, aJ 28 6, aP 4 2 27, aJ 3 28] .rt))))))⟩
def Xx : AFn := ⟨1, [.t 2], (aA 1 [cD 1 0 Z1 4 0, aI 2] (aA 1 [bT 6 1 0, bD 7 1 6, bT 8 1 1, bD 9 1 8, aS 10 0 1 Zts 7 9, aJ 5 10, aO 11 5 0, aO 12 5 1, aJ 3 11, aJ 4 12] (.sq (aA 0 [aJ 13 4, aT 14 13, aJ 15 14, bW 15 16 1 1, bV 15 17 1 16, bH 15 18 17, bI 15 19 .gtr 18 8, bJ 20 15 19, aJ 21 20, bW 21 22 1 2, bV 21 23 1 22, bH 21 24 23, bI 21 25 .gtr 24 8, bJ 26 21 25, aJ 27 26, bW 27 28 1 3, bV 27 29 1 28, bI 27 30 .lss 29 1, bJ 31 27 30, aJ 32 31, bW 32 33 1 3, bV 32 34 1 33, bI 32 35 .gtr 34 60, bJ 36 32 35, aJ 37 36, bK 37 38 4 1, bL 37 39 0 0 Y17 38, bM 37 40 39, bJ 41 37 40] (aB 41 (aA 0 [aI 2] .rt) .sk)) (.sq (.rg 2 true [aQ 42 4 1, aN 43 0 1 Ys 42, aQ 44 4 1, aN 45 1 1 Z5u 44, aS 46 2 0 Z1g 43 45, aT 47 46, aJ 2 47]) .rt))))⟩
def Zyn : AFn := ⟨2, [.t 4, .t 5], (aA 2 [cD 2 0 Z1 4 0, cE 4 1 Z2, aI 5] (aA 0 [aQ 7 4 2, aJ 8 1, aS 9 0 0 Y0s 7 8, aJ 6 9] (.sq (aA 0 [aQ 10 4 2, aN 11 0 0 Vg 10, aT 12 11, aJ 13 12, bG 13 14 6, bI 13 15 .lss 14 0, bJ 16 13 15] (aB 16 (aA 1 [cE 4 0 Z2, aI 5] .rt) .sk)) (.sq (.rg 1 true [aQ 17 4 2, bT 18 2 2, bD 19 1 18, aJ 20 6, bC 21 Z4 19 20, aQ 22 3 21, aS 23 0 1 Zfz 17 22, aJ 4 23, aM 5]) .rt))))⟩
def Z1b : AFn := ⟨3, [.t 6], (aA 1 [cD 4 0 Zb 5 1, aI 6] (aA 0 [aJ 7 0, aQ 8 5 4, aS 9 0 0 V6 7 8, aJ 10 9, aV 10 11 2, aW 10 12 11, aV 10 13 0, aW 10 14 13, aX 10 15 .eql 12 14, bA 16 10 15, aJ 17 16, aV 17 18 0, bP 17 19 5 4, aV 17 20 2, bS 17 21 0 0 Z1e 18 19 20, bA 22 17 21, aJ 6 22] .rt))⟩
def Z4t : ACode := (.sq (aA 0 [aJ 6 5, aJ 7 0, aK 8 7, bB 9 .lss 6 8] (aB 9 .sk (.xt 0))) (.sq (.bl 1 (aA 0 [aJ 12 0, aJ 13 5, bC 14 Z0 12 13, bT 15 14 0, bD 16 1 15, aJ 17 1, bB 18 .eql 16 17] (aB 18 (aA 0 [aJ 19 5, aJ 4 19] .rt) .sk))) (.rg 0 false [aJ 10 5, aL 11 .add 10 1, aJ 5 11])))
def Z7b : ACode := Z4t
theorem Zbk : aG Z7b Z4t := fun _ _ => rfl
def Z7f : AFn := ⟨2, [.t 4], (aA 0 [bF 4 0] (.sq (aA 0 [bF 5 0] (.bl 0 (.lp [0, 1, 5] Z7b))) (aA 0 [bF 4 (-1)] .rt)))⟩
def Z77 : AFn := ⟨1, [.t 2], (aA 2 [cD 1 0 Z1 4 0, cE 2 1 Z0] (aA 1 [aQ 3 4 1, bT 4 1 1, bD 5 1 4, aK 6 5, aS 7 0 1 Yl 3 6, aJ 2 7] .rt))⟩
def Z32 : AFn := ⟨1, [.t 2], (aA 0 [.o (.mv 2 (.k (.v (.pointer none))))] (.sq (aA 0 [aJ 3 0, aK 4 3, aL 5 .gtr 4 2000] (aB 5 (.rg 0 false [aJ 6 0, .o (.sl 7 (some W5) (.t 6) none (some (cN 2000)) none), aJ 0 7]) .sk)) (aA 2 [aJ 8 0, .o (.bld 9 0 [(.lit W5 []), cO] [(0, 1, (.t 8))]), cD 10 1 Za1 2 9, aJ 2 10] .rt)))⟩
def Z2b : AFn := ⟨1, [.cell 2 4 true], (aA 4 [.o (.al 2 0 Z1 [(.lit Z0 []), (.lit Z3 []), (.lit Z4 []), cO])] (aA 0 [aJ 3 0, aJ 4 0, cA 5 Z3a 4, cC 6 Z4b 3 5, aP 4 2 6] .rt))⟩
def Z7e : AFn := ⟨1, [.t 2], (aA 2 [cD 1 0 Z1 4 0, cE 2 1 Z0] (aA 1 [aQ 3 4 1, aN 4 0 1 Y2q 3, aJ 2 4] .rt))⟩
def Ztw : AFn := ⟨2, [.t 4], (aA 0 [bF 4 0] (aA 0 [aJ 7 0, aJ 8 0, .o (.nl (some 9) (.t 8)), bT 10 9 1, bD 11 1 10, aL 12 .add 11 1, .o (.nl (some 13) (.t 7)), bT 14 13 1, aP 1 14 12] (.sq (aA 0 [aJ 15 1, aL 16 .lss 15 1, aJ 17 16, bG 17 18 0, .g 17 false (.nl (some 19) (.t 18)), bW 17 20 19 0, bV 17 21 1 20, bH 17 22 21, bI 17 23 .eql 22 0, bJ 24 17 23] (aB 24 (aA 0 [bF 4 0] .rt) .sk)) (aA 0 [aJ 25 0, .o (.nl (some 26) (.t 25)), bT 27 26 1, bD 28 1 27, aL 29 .sub 28 1, aJ 5 29] (.sq (aA 0 [aJ 30 5, aJ 31 0, .o (.nl (some 32) (.t 31)), bT 33 32 0, bD 34 1 33, aK 35 34, bB 36 .lss 30 35] (aB 36 (aA 0 [aJ 37 0, .o (.nl (some 38) (.t 37)), bT 39 38 0, bD 40 1 39, aJ 41 5, bC 42 W5 40 41, bD 43 1 42, .o (.cv 44 .i64 (.t 43)), aJ 45 1, bB 46 .rem 44 45, aJ 4 46] .rt) .sk)) (.sq (.rg 0 true [aJ 47 0, .o (.nl (some 48) (.t 47)), bT 49 48 0, bD 50 1 49, aJ 51 5, aJ 52 0, .o (.nl (some 53) (.t 52)), bT 54 53 0, bD 55 1 54, aK 56 55, bB 57 .rem 51 56, bC 58 W5 50 57, bD 59 1 58, .o (.cv 60 .i64 (.t 59)), aL 61 .mul 60 131, aJ 62 0, .o (.nl (some 63) (.t 62)), bT 64 63 0, bD 65 1 64, aJ 66 5, aL 67 .mul 66 7, aL 68 .add 67 3, aJ 69 0, .o (.nl (some 70) (.t 69)), bT 71 70 0, bD 72 1 71, aK 73 72, bB 74 .rem 68 73, bC 75 W5 65 74, bD 76 1 75, .o (.cv 77 .i64 (.t 76)), aL 78 .mul 77 1117, bB 79 .add 61 78, aJ 80 5, aL 81 .mul 80 29, bB 82 .add 79 81, aJ 83 5, aJ 84 0, .o (.nl (some 85) (.t 84)), bT 86 85 0, bD 87 1 86, aK 88 87, bB 89 .quo 83 88, aL 90 .mul 89 53, bB 91 .add 82 90, aJ 6 91]) (aA 0 [aJ 92 6, aJ 93 6, aL 94 .quo 93 64, bB 95 .xor 92 94, aJ 6 95] (aA 0 [aJ 96 6, aJ 97 1, bB 98 .rem 96 97, aJ 4 98] .rt))))))))⟩
def Z8j : AFn := ⟨2, [.t 4], (aA 3 [cD 2 0 Z1 4 0, cD 3 1 Z4 3 1, cE 4 2 Z2] (.sq (.rg 2 true [aQ 5 4 2, bT 6 3 1, bD 7 1 6, aS 8 0 1 Yl 5 7, bT 9 2 1, bD 10 1 9, bT 11 3 1, bD 12 1 11, .o (.sl 13 (some Z3) (.t 10) (some (.t 12)) none none), bT 14 3 2, bD 15 1 14, aU 16 1 1 Z4i 8 13 15, aJ 4 16]) .rt))⟩
def Y75 : AFn := ⟨2, [.t 4], (aA 0 [.o (.mv 4 (.k cP))] (aA 0 [aJ 5 1, aJ 6 0, aJ 7 1, aK 8 7, cC 9 Z0f 6 8, bC 10 Vl 5 9, bD 11 1 10, aJ 4 11] .rt))⟩
def Z6l : AFn := ⟨0, [.t 0], (aA 1 [cE 0 0 Vl] (aA 1 [.o (.bsl 1 0 Vl 1 [(.k (.v (.string ⟨#[97]⟩))), (.k (.v (.string ⟨#[98]⟩))), (.k (.v (.string ⟨#[99]⟩))), (.k (.v (.string ⟨#[100]⟩))), (.k (.v (.string ⟨#[101]⟩))), (.k (.v (.string ⟨#[97, 98]⟩)))]), aJ 0 1] .rt))⟩
def Z7r : AFn := ⟨1, [.cell 2 3 true], (aA 1 [.o (.al 2 0 Z2 [cO, cO, cP])] (aA 0 [aJ 3 0, aJ 4 0, aJ 5 0, cG 6 Z0f 5 3, cC 7 Xk 4 6, cC 8 V7 3 7, aP 3 2 8] .rt))⟩
def Xm : ACode := (aA 0 [bB 42 .lss 41 40] (.sq (aB 42 .sk (.xt 0)) (.sq (.bl 1 (aA 2 [bC 43 Z4 39 41, aQ 44 3 43, .o (.al 7 0 Z4 [cO, cO, (.lit Z2 [])]), aP 3 7 44] (.sq (aA 0 [bT 45 7 0, bD 46 1 45, aJ 47 5, aL 48 .add 47 1, bT 49 1 3, bD 50 1 49, aL 51 .sub 50 1, aU 52 0 0 V5 46 48 51, aT 53 52, aJ 54 53, bW 54 55 7 1, bV 54 56 1 55, bW 54 57 1 1, bV 54 58 1 57, bH 54 59 58, .g 54 false (.call (some 60) 0 0 V5 [(.t 56), (.k cO), (.t 59)]), bM 54 61 60, bJ 62 54 61] (aB 62 (aA 0 [aI 2] .rt) .sk)) (aA 0 [bT 63 7 0, bD 64 1 63, aJ 5 64] (.sq (.rg 1 true [bT 66 1 0, bD 67 1 66, bT 68 1 1, bD 69 1 68, bT 70 7 1, bD 71 1 70, .o (.sl 72 (some Z3) (.t 69) none (some (.t 71)) none), aS 73 0 1 Wq 67 72, aJ 65 73, aO 74 65 0, aO 75 65 1, aJ 8 74, aJ 9 75]) (aA 1 [aJ 76 8, bT 77 7 2, bD 78 1 77, aS 79 0 0 Xp 76 78, aT 80 79, aJ 81 80, bG 81 82 3, bK 81 83 4 1, bK 81 84 3 7, bN 81 85 0 1 Zfz 83 84, bN 81 86 1 0 Xp 82 85, bM 81 87 86, bJ 88 81 87] (aB 88 (aA 0 [aI 2] .rt) .sk))))))) (.rg 0 false [aL 89 .add 41 1, aJ 41 89]))))
def Wf : ACode := Xm
theorem V0 : aG Wf Xm := fun _ _ => rfl
def Wn : AFn := ⟨1, [.t 2], (aA 1 [cD 1 0 Z1 4 0, aI 2] (aA 1 [bT 11 1 0, bD 12 1 11, bT 13 1 1, bD 14 1 13, aS 15 0 1 Y2x 12 14, aJ 10 15, aO 16 10 0, aO 17 10 1, aJ 3 16, aJ 4 17] (.sq (aA 0 [aJ 18 4, aT 19 18, aJ 20 19, bW 20 21 1 1, bV 20 22 1 21, bH 20 23 22, bI 20 24 .gtr 23 8, bJ 25 20 24, aJ 26 25, bW 26 27 1 2, bV 26 28 1 27, bH 26 29 28, bI 26 30 .gtr 29 8, bJ 31 26 30, aJ 32 31, bW 32 33 1 3, bV 32 34 1 33, .g 32 false (.call (some 35) 0 0 V5 [(.t 34), (cN 1), (cN 60)]), bM 32 36 35, bJ 37 32 36] (aB 37 (aA 0 [aI 2] .rt) .sk)) (aA 0 [bF 5 0] (.sq (aA 0 [bT 38 1 2, bD 39 1 38, aK 40 39, bF 41 0] (.bl 0 (.lp [1, 3, 5, 39, 40, 41] Wf))) (aA 0 [aQ 90 4 1, aN 91 0 0 Zng 90, aJ 2 91] .rt))))))⟩
def Y6n : AFn := ⟨1, [.t 2], (aA 2 [cD 1 0 Z1 4 0, cE 2 1 Z0] (aA 1 [bT 6 1 0, bD 7 1 6, bT 8 1 1, bD 9 1 8, aS 10 0 1 Wq 7 9, aJ 5 10, aO 11 5 0, aO 12 5 1, aJ 3 11, aJ 4 12] (aA 0 [aJ 13 3, aJ 2 13] .rt)))⟩
def Y71 : AFn := ⟨2, [.t 4], (aA 0 [aI 4] (aA 0 [aJ 5 0, aJ 6 1, aS 7 0 0 Y3q 5 6, aL 8 .geq 7 0, aJ 4 8] .rt))⟩
def Y8i : AFn := ⟨2, [.t 3], (aA 1 [cD 2 0 Zb 5 0, aI 3] (aA 0 [bD 4 1 1, aQ 5 5 2, aS 6 0 0 Zxp 4 5, aT 7 6, aJ 3 7] .rt))⟩
def Ztl : AFn := ⟨2, [.t 4], (aA 1 [cD 3 0 Zb 5 1, aI 4] (aA 0 [aJ 6 0, bT 7 3 0, bD 8 1 7, aS 9 0 0 Wb 6 8, aJ 5 9] (.sq (.rg 0 true [aJ 10 5, aL 11 .geq 10 0, aJ 12 11, aY 12 13 3 2, bP 12 14 3 13, cH 12 15 0 0 V8 14, bA 16 12 15, aJ 17 16, aY 17 18 3 1, aZ 17 19 1 18, .g 17 true (.call (some 20) 0 0 V5 [(.t 19), (cN 1), (cN 3)]), bA 21 17 20, aJ 22 21, aY 22 23 3 2, aY 22 24 23 0, aZ 22 25 1 24, aV 22 26 0, aV 22 27 5, bR 22 28 Z0 26 27, aY 22 29 28 1, aZ 22 30 1 29, aX 22 31 .eql 25 30, aV 22 32 31, bW 32 33 3 1, bV 32 34 1 33, bI 32 35 .eql 34 1, bG 32 36 35, aY 36 37 3 2, aY 36 38 37 0, aZ 36 39 1 38, bY 36 40 .eql 39 0, cI 32 41 36 40, bZ 22 42 32 41, bA 43 22 42, aJ 4 43]) .rt)))⟩
def Y7v : AFn := ⟨2, [.t 4], (aA 3 [cD 2 0 Z1 4 0, cD 3 1 Z4 3 1, cE 4 2 Z2] (.sq (.rg 1 true [bT 8 2 0, bD 9 1 8, bT 10 2 1, bD 11 1 10, bT 12 3 1, bD 13 1 12, .o (.sl 14 (some Z3) (.t 11) none (some (.t 13)) none), aS 15 0 1 Wq 9 14, aJ 7 15, aO 16 7 0, aO 17 7 1, aJ 5 16, aJ 6 17]) (.sq (.rg 1 true [aJ 18 5, bT 19 2 1, bD 20 1 19, bT 21 3 1, bD 22 1 21, .o (.sl 23 (some Z3) (.t 20) (some (.t 22)) none none), bT 24 3 2, bD 25 1 24, aU 26 0 1 Y0j 18 23 25, aJ 4 26]) .rt)))⟩
def Y6l : AFn := ⟨3, [.t 4], (aA 1 [cD 3 0 Zb 5 0, aI 4] (aA 0 [bD 5 1 1, aQ 6 5 3, bD 7 1 2, aU 8 0 0 Z1e 5 6 7, aT 9 8, aJ 4 9] .rt))⟩
def Vi : AFn := ⟨3, [.t 6], (aA 1 [cD 4 0 Zb 5 1, aI 6] (aA 1 [aJ 8 2, aJ 9 0, bT 10 4 0, bD 11 1 10, aS 12 0 0 Wb 9 11, bC 13 Z2 8 12, aQ 14 3 13, .o (.al 7 0 Z2 [cO, cO, cP]), aP 3 7 14] (.sq (aA 0 [bT 15 4 1, bD 16 1 15] (.bl 0 (aA 0 [aL 18 .eql 16 1, aJ 17 18] (aB 17 (aA 0 [aQ 19 3 7, bT 20 4 2, aQ 21 3 20, cJ 22 [0, 0, 1] 19 21, aJ 6 22] .rt) (aA 0 [aL 24 .eql 16 2, aJ 23 24] (aB 23 (aA 0 [bT 25 7 0, bD 26 1 25, aL 27 .neq 26 0, aJ 28 27, bP 28 29 3 7, aY 28 30 4 2, bP 28 31 3 30, bQ 28 32 0 0 Z19 29 31, bA 33 28 32, aJ 6 33] .rt) .sk)))))) (aA 0 [bT 34 7 0, bD 35 1 34, aL 36 .neq 35 0, aJ 37 36, aY 37 38 4 2, bP 37 39 3 38, bP 37 40 3 7, bQ 37 41 0 0 Z19 39 40, bA 42 37 41, aJ 6 42] .rt))))⟩
def Y1x : AFn := ⟨1, [.t 2], (aA 1 [cE 2 0 Zy] (aA 0 [aJ 3 0, aJ 4 0, aK 5 4, aJ 6 0, aK 7 6, .o (.sl 8 (some Zy) (.t 3) none (some (.t 5)) (some (.t 7))), aJ 2 8] .rt))⟩
def Z06 : ACode := (.sq (aA 0 [aJ 6 5, aJ 7 1, aK 8 7, bB 9 .lss 6 8] (aB 9 .sk (.xt 0))) (.sq (.bl 1 (aA 0 [aJ 12 0, aJ 13 1, aJ 14 5, bC 15 Zb 13 14, aQ 16 5 15, aS 17 0 0 Z4m 12 16, aT 18 17] (aB 18 (aA 0 [aI 4] .rt) .sk))) (.rg 0 false [aJ 10 5, aL 11 .add 10 1, aJ 5 11])))
def Z3s : ACode := Z06
theorem Z3x : aG Z3s Z06 := fun _ _ => rfl
def Z37 : AFn := ⟨2, [.t 4], (aA 0 [aI 4] (.sq (aA 0 [bF 5 0] (.bl 0 (.lp [0, 1, 5] Z3s))) (aA 0 [aJ 19 1, aK 20 19, aL 21 .leq 20 3, aJ 4 21] .rt)))⟩
def Z0r : AFn := ⟨2, [.t 4], (aA 2 [cD 2 0 Zb 5 0, cD 3 1 Z2 3 1, aI 4] (.sq (aA 0 [bT 5 2 1, bD 6 1 5] (.bl 0 (aA 0 [aL 8 .eql 6 1, aJ 7 8] (aB 7 (aA 0 [aQ 9 3 3, bT 10 2 2, aQ 11 3 10, cJ 12 [0, 0, 1] 9 11, aJ 4 12] .rt) (aA 0 [aL 14 .eql 6 2, aJ 13 14] (aB 13 (aA 0 [bT 15 3 0, bD 16 1 15, aL 17 .neq 16 0, aJ 18 17, bP 18 19 3 3, aY 18 20 2 2, bP 18 21 3 20, bQ 18 22 0 0 Z18 19 21, bA 23 18 22, aJ 4 23] .rt) .sk)))))) (aA 0 [bT 24 3 0, bD 25 1 24, aL 26 .neq 25 0, aJ 27 26, aY 27 28 2 2, bP 27 29 3 28, bP 27 30 3 3, bQ 27 31 0 0 Z18 29 30, bA 32 27 31, aJ 4 32] .rt)))⟩
def Z1j : ACode := (aA 0 [bB 8 .lss 7 6] (.sq (aB 8 .sk (.xt 0)) (.sq (.bl 1 (aA 1 [aJ 9 7, bC 10 Z0 5 7, aQ 11 7 10, .o (.al 4 0 Z0 [cP, cO, cQ, cQ, cO, cO, cP]), aJ 3 9, aP 7 4 11] (aA 0 [aQ 12 7 4, aN 13 0 0 Z67 12, aT 14 13, aJ 15 14, bG 15 16 0, bW 15 17 4 0, bV 15 18 1 17, bN 15 19 0 0 Wb 16 18, bG 15 20 3, bX 15 21 .neq 19 20, bJ 22 15 21] (aB 22 (aA 0 [aI 2] .rt) .sk)))) (.rg 0 false [aL 23 .add 7 1, aJ 7 23]))))
def Z3y : ACode := Z1j
theorem Z87 : aG Z3y Z1j := fun _ _ => rfl
def Z33 : AFn := ⟨1, [.t 2], (aA 0 [aI 2] (.sq (aA 0 [aJ 5 0, aK 6 5, bF 7 0] (.bl 0 (.lp [0, 5, 6, 7] Z3y))) (aA 0 [aJ 24 0, aK 25 24, .o (.call (some 26) 0 0 V5 [(.t 25), (cN 1), (cN 5)]), aJ 2 26] .rt)))⟩
def Z8b : AFn := ⟨2, [.t 4], (aA 1 [cD 3 0 Vl 1 1, bF 4 0] (aA 0 [aJ 5 0, .o (.mkf 6 Vd [(.t 3)]), aS 7 0 0 Y28 5 6, aJ 4 7] .rt))⟩
def Y11 : AFn := ⟨2, [.t 4], (aA 0 [bF 4 0] (aA 0 [aJ 5 1, aJ 6 0, aJ 7 1, aK 8 7, cC 9 Z0f 6 8, bC 10 Zy 5 9, bD 11 1 10, aJ 4 11] .rt))⟩
def Yx : AFn := ⟨2, [.cell 4 5 true], (aA 1 [.o (.al 4 0 Zb [cP, cO, cO, cO, cP])] (aA 2 [aJ 7 0, .o (.call (some 8) 0 1 Wk []), cC 9 Zah 7 8, aJ 10 0, cG 11 Z0f 10 3, .o (.bin 12 .add (cN 1) (.t 11)), .o (.bld 13 1 [cP, cO, cO, cO, cP] [(0, 1, (.t 9)), (1, 1, (.t 12))]), .o (.al 5 1 Zb [cP, cO, cO, cO, cP]), aP 5 5 13] (.sq (aA 0 [aJ 14 1, aK 15 14, aL 16 .gtr 15 0, aJ 17 16, aV 17 18 0, cB 17 19 Z0f 18 10, bY 17 20 .gtr 19 0, bA 21 17 20] (aB 21 (aA 0 [aJ 22 0, aJ 23 1, aK 24 23, cC 25 Z0f 22 24, aJ 6 25] (aA 0 [aJ 26 1, aJ 27 6, bC 28 Z0 26 27, bT 29 28 0, bD 30 1 29, bT 31 5 0, aP 1 31 30] (aA 0 [aJ 32 0, aJ 33 1, aJ 34 6, bC 35 Z0 33 34, bT 36 35 1, bD 37 1 36, cC 38 Xk 32 37, bT 39 5 2, aP 3 39 38] (aA 0 [bT 40 5 2, bT 41 40 0, bD 42 1 41, aL 43 .eql 42 0, aJ 44 43, aV 44 45 0, cB 44 46 Z0f 45 4, bY 44 47 .gtr 46 0, bA 48 44 47] (aB 48 (.rg 0 false [bT 49 5 1, .o (.st 1 (.t 49) (cN 1))]) .sk))))) .sk)) (.sq (aA 0 [aJ 50 0, cG 51 Z0f 50 40] (.bl 0 (aA 0 [aL 53 .eql 51 0, aJ 52 53] (aB 52 (.rg 1 false [aJ 54 0, .o (.bsl 55 0 Zy 1 [(.k cO), (cN 4), (cN (-1))]), cC 56 Zan 54 55, bT 57 5 1, aP 1 57 56]) (aA 0 [aL 59 .eql 51 1, aJ 58 59] (aB 58 (.rg 0 false [aJ 60 0, cA 61 Wi 60, bT 62 5 2, aP 3 62 61]) .sk)))))) (aA 0 [aQ 63 5 5, aP 5 4 63] .rt)))))⟩
def Zf1 : ACode := (.sq (aA 0 [aJ 16 7, aJ 17 1, aK 18 17, bB 19 .lss 16 18] (aB 19 .sk (.xt 0))) (.sq (.bl 1 (aA 0 [aI 8] (aA 1 [aJ 23 6, aJ 24 1, aJ 25 7, bC 26 Z3 24 25, aQ 27 10 26, aS 28 0 1 Z0c 23 27, aJ 22 28, aO 29 22 0, aO 30 22 1, aJ 6 29, aJ 8 30] (aA 0 [aJ 31 8, aT 32 31] (aB 32 (aA 1 [bO 33 0 Z0 7, aJ 4 33, aI 5] .rt) .sk))))) (.rg 0 false [aJ 20 7, aL 21 .add 20 1, aJ 7 21])))
def Zr3 : ACode := Zf1
theorem Zps : aG Zr3 Zf1 := fun _ _ => rfl
def Zwl : AFn := ⟨2, [.t 4, .t 5], (aA 1 [cE 4 0 Z0, aI 5] (.sq (aA 0 [aJ 9 0, aN 10 0 0 Xu 9, aT 11 10] (aB 11 (aA 1 [bO 12 0 Z0 7, aJ 4 12, aI 5] .rt) .sk)) (aA 2 [bO 13 0 Z0 7, aJ 14 0, bE 15 1 Z0 13 14, aJ 6 15] (.sq (aA 0 [bF 7 0] (.bl 0 (.lp [1, 6, 7] Zr3))) (aA 0 [aJ 34 6, aJ 4 34, aM 5] .rt)))))⟩
def Z0g : ACode := (.sq (aA 0 [aJ 8 4, bT 9 1 2, bD 10 1 9, aK 11 10, bB 12 .lss 8 11] (aB 12 .sk (.xt 0))) (.sq (.bl 1 (aA 2 [bT 15 1 2, bD 16 1 15, aJ 17 4, bC 18 Z4 16 17, aQ 19 3 18, .o (.al 5 0 Z4 [cO, cO, (.lit Z2 [])]), aP 3 5 19] (.sq (.sq (.rg 0 true [bT 20 5 1, bD 21 1 20, aL 22 .lss 21 0, aJ 23 22, bW 23 24 5 1, bV 23 25 1 24, bW 23 26 1 1, bV 23 27 1 26, bH 23 28 27, bX 23 29 .gtr 25 28, bJ 30 23 29, aJ 31 30, bW 31 32 5 0, bV 31 33 1 32, bI 31 34 .lss 33 1, bJ 35 31 34, aJ 36 35, bW 36 37 5 0, bV 36 38 1 37, bW 36 39 1 3, bV 36 40 1 39, bX 36 41 .geq 38 40, bJ 42 36 41, aJ 43 42, bG 43 44 4, bI 43 45 .gtr 44 0, bG 43 46 45, aY 46 47 1 2, aZ 46 48 1 47, aV 46 49 4, bY 46 50 .sub 49 1, bR 46 51 Z4 48 50, aY 46 52 51 0, aZ 46 53 1 52, aY 46 54 5 0, aZ 46 55 1 54, aX 46 56 .geq 53 55, cI 43 57 46 56, bJ 58 43 57]) (aB 58 (aA 0 [aI 2] .rt) .sk)) (.sq (.rg 2 true [aQ 59 4 1, bT 60 5 1, bD 61 1 60, aS 62 0 1 Yl 59 61, bT 63 5 2, bD 64 1 63, aS 65 1 0 Y9 62 64, aT 66 65, aJ 67 66, bG 67 68 3, bK 67 69 4 1, bK 67 70 3 5, bN 67 71 1 1 X2 69 70, bN 67 72 2 0 Y9 68 71, bM 67 73 72, bJ 74 67 73]) (aB 74 (aA 0 [aI 2] .rt) .sk))))) (.rg 0 false [aJ 13 4, aL 14 .add 13 1, aJ 4 14])))
def Zre : ACode := Z0g
theorem Z15 : aG Zre Z0g := fun _ _ => rfl
def Y2k : AFn := ⟨1, [.t 2], (aA 1 [cD 1 0 Z1 4 0, aI 2] (aA 1 [aQ 6 4 1, aN 7 0 1 Ys 6, aJ 3 7] (.sq (aA 0 [bF 4 0] (.bl 0 (.lp [1, 3, 4] Zre))) (aA 0 [aM 2] .rt))))⟩
def V3 : ACode := (.sq (aA 0 [aJ 27 7, aJ 28 6, bB 29 .lss 27 28] (aB 29 .sk (.xt 4))) (.sq (.bl 5 (.sq (.rg 0 true [aJ 32 1, aJ 33 6, bC 34 Zp 32 33, bD 35 1 34, aJ 36 5, bC 37 Z2 35 36, bT 38 37 0, bD 39 1 38, aL 40 .neq 39 0, aJ 41 40, aV 41 42 1, aV 41 43 6, bR 41 44 Zp 42 43, aZ 41 45 1 44, aV 41 46 5, bR 41 47 Z2 45 46, bP 41 48 3 47, aV 41 49 1, aV 41 50 7, bR 41 51 Zp 49 50, aZ 41 52 1 51, aV 41 53 5, bR 41 54 Z2 52 53, bP 41 55 3 54, cF 41 56 [0, 0, 1] 48 55, bA 57 41 56]) (aB 57 (aA 0 [aM 4] .rt) .sk))) (.rg 0 false [aJ 30 7, aL 31 .add 30 1, aJ 7 31])))
def Wy : ACode := V3
theorem Z1n : aG Wy V3 := fun _ _ => rfl
def We : ACode := (.sq (aA 0 [aJ 14 6, aJ 15 1, aK 16 15, bB 17 .lss 14 16, aJ 18 17, aV 18 19 0, aV 18 20 5, bR 18 21 Z0 19 20, aY 18 22 21 3, aZ 18 23 1 22, bA 24 18 23] (aB 24 .sk (.xt 2))) (.sq (.bl 3 (aA 0 [bF 7 0] (.bl 4 (.lp [0, 1, 5, 6, 7] Wy)))) (.rg 0 false [aJ 25 6, aL 26 .add 25 1, aJ 6 26])))
def Z1l : ACode := We
theorem Z05 : aG Z1l We := fun _ _ => rfl
def V1 : ACode := (.sq (aA 0 [aJ 8 5, aJ 9 0, aK 10 9, bB 11 .lss 8 10] (aB 11 .sk (.xt 0))) (.sq (.bl 1 (aA 0 [bF 6 0] (.bl 2 (.lp [0, 1, 5, 6] Z1l)))) (.rg 0 false [aJ 12 5, aL 13 .add 12 1, aJ 5 13])))
def Z42 : ACode := V1
theorem Z1k : aG Z42 V1 := fun _ _ => rfl
def Z35 : AFn := ⟨2, [.t 4], (aA 0 [aI 4] (.sq (aA 0 [bF 5 0] (.bl 0 (.lp [0, 1, 5] Z42))) (aA 0 [aI 4] .rt)))⟩
def Z3b : ACode := (.sq (aA 0 [aJ 6 4, bT 7 1 2, bD 8 1 7, aK 9 8, bB 10 .lss 6 9] (aB 10 .sk (.xt 0))) (.sq (.bl 1 (.rg 3 true [aJ 13 3, aQ 14 4 1, bT 15 1 2, bD 16 1 15, aJ 17 4, bC 18 Z4 16 17, aQ 19 3 18, aS 20 0 1 X2 14 19, aR 21 1 Zp 1 20, bE 22 2 Zp 13 21, aJ 3 22])) (.rg 0 false [aJ 11 4, aL 12 .add 11 1, aJ 4 12])))
def Z6i : ACode := Z3b
theorem Za8 : aG Z6i Z3b := fun _ _ => rfl
def Z8m : AFn := ⟨1, [.t 2], (aA 2 [cD 1 0 Z1 4 0, cE 2 1 Zp] (aA 1 [bO 5 0 Zp 1, aJ 3 5] (.sq (aA 0 [bF 4 0] (.bl 0 (.lp [1, 3, 4] Z6i))) (aA 0 [aJ 23 3, aJ 2 23] .rt))))⟩
def Y6t : AFn := ⟨2, [.t 4], (aA 2 [cD 2 0 Z1 4 0, cD 3 1 Zy 1 1, bF 4 0] (aA 0 [bT 5 2 2, bD 6 1 5, .o (.mkf 7 Zr9 [(.t 3)]), aS 8 0 0 Y10 6 7, aJ 4 8] .rt))⟩
def Xy : ACode := (.sq (aA 0 [aJ 9 6, aJ 10 1, aK 11 10, bB 12 .lss 9 11] (aB 12 .sk (.xt 0))) (.sq (.bl 1 (aA 0 [aJ 15 1, aJ 16 6, bC 17 Z0 15 16, bT 18 17 2, bD 19 1 18, aJ 20 19, bG 20 21 0, cK 20 22 Z0f 21 2, bI 20 23 .eql 22 0, bJ 24 20 23] (aB 24 (aA 1 [aJ 25 0, aJ 26 1, aJ 27 6, bC 28 Z0 26 27, bT 29 28 1, bD 30 1 29, cC 31 Xk 25 30, .o (.al 7 0 Z2 [cO, cO, cP]), aP 3 7 31] (.sq (aA 0 [aJ 32 1, aJ 33 6, bC 34 Z0 32 33, bT 35 34 2, bD 36 1 35, aJ 37 36, aY 37 38 7 0, aZ 37 39 1 38, bY 37 40 .eql 39 0, bA 41 37 40, aJ 42 41, aV 42 43 0, cB 42 44 Z0f 43 6, bY 42 45 .gtr 44 0, bA 46 42 45] (aB 46 (.rg 0 false [aJ 47 1, aJ 48 6, bC 49 Z0 47 48, bT 50 49 1, bD 51 1 50, bT 52 7 0, aP 1 52 51]) .sk)) (.rg 2 true [aJ 53 5, aJ 54 1, aJ 55 6, bC 56 Z0 54 55, bT 57 56 0, bD 58 1 57, aQ 59 3 7, .o (.bld 60 0 [cP, cO, cO, cP] [(0, 1, (.t 58)), (1, 3, (.t 59))]), aR 61 0 Zk 4 60, bE 62 1 Zk 53 61, aJ 5 62]))) .sk))) (.rg 0 false [aJ 13 6, aL 14 .add 13 1, aJ 6 14])))
def Z2a : ACode := Xy
theorem Vq : aG Z2a Xy := fun _ _ => rfl
def Z11 : AFn := ⟨2, [.t 4], (aA 1 [cE 4 0 Zk] (aA 1 [bO 8 0 Zk 4, aJ 5 8] (.sq (aA 0 [bF 6 0] (.bl 0 (.lp [0, 1, 5, 6] Z2a))) (.sq (aA 0 [aJ 63 0, cG 64 Z0f 63 40] (.bl 2 (aA 0 [aL 66 .eql 64 0, aJ 65 66] (aB 65 (aA 3 [aJ 67 5, aJ 68 0, .o (.bsl 69 0 Vl 1 [(.k (.v (.string ⟨#[97]⟩))), (.k (.v (.string ⟨#[122, 122]⟩))), (.k cP)]), cC 70 Zah 68 69, .o (.bld 71 1 [cP, cO, cO, cP] [(0, 1, (.t 70))]), aR 72 1 Zk 4 71, bE 73 2 Zk 67 72, aJ 4 73] .rt) (aA 0 [aL 75 .eql 64 1, aJ 74 75] (aB 74 (aA 0 [aJ 76 5, aK 77 76, aL 78 .gtr 77 0] (aB 78 (.rg 0 false [aJ 79 5, aJ 80 0, cA 81 Wi 80, .o (.ia 82 Zk (.t 79) (.k cO)), bT 83 82 1, aP 3 83 81]) .sk)) .sk)))))) (aA 0 [aJ 84 5, aJ 4 84] .rt)))))⟩
def Yu : AFn := ⟨2, [.cell 4 4 true, .t 5], (aA 5 [cD 2 0 Z1 4 0, .o (.al 4 1 Z1 [(.lit Z0 []), (.lit Z3 []), (.lit Z4 []), cO]), bF 5 0] (aA 1 [aQ 11 4 2, .o (.callx (some 12) 0 1 Ys [(.t 11)]), aJ 6 12] (aA 2 [aJ 14 6, aJ 15 6, aN 16 0 1 Z4f 15, aJ 17 1, aU 18 1 1 Z1z 14 16 17, aJ 13 18, aO 19 13 0, aO 20 13 1, aJ 7 19, aJ 8 20] (.sq (aA 0 [aJ 21 8, aT 22 21] (aB 22 (aA 0 [aQ 23 4 2, aP 4 4 23, bF 5 1] .rt) .sk)) (aA 3 [bT 24 2 3, bD 25 1 24, bT 26 2 1, bD 27 1 26, aK 28 27, aJ 29 7, .o (.bld 30 0 [cO, cO, (.lit Z2 [])] [(0, 1, (.t 25)), (1, 1, (.t 28)), (2, 1, (.t 29))]), .o (.al 9 1 Z4 [cO, cO, (.lit Z2 [])]), aP 3 9 30] (aA 0 [aQ 31 4 2, aQ 32 3 9, .o (.callx (some 33) 0 0 Z25 [(.t 31), (.t 32)]), aJ 10 33] (.sq (aA 0 [aJ 34 10, aL 35 .eql 34 0, aJ 36 35, aY 36 37 2 2, aZ 36 38 1 37, aW 36 39 38, bY 36 40 .geq 39 8, aV 36 41 40, bW 41 42 2 3, bV 41 43 1 42, bI 41 44 .geq 43 60, bZ 36 45 41 44, bA 46 36 45] (aB 46 (.rg 0 false [bF 10 4]) .sk)) (.sq (aA 0 [aJ 47 10, aL 48 .neq 47 0] (aB 48 (aA 0 [aQ 49 4 2, aJ 50 10, aP 4 4 49, aJ 5 50] .rt) .sk)) (aA 2 [bT 51 2 2, bD 52 1 51, aQ 53 3 9, .o (.bsb 54 0 Z4 3 [(.t 53)]), .o (.apb 55 1 Z4 (.t 52) (.t 54)), bT 56 2 2, aP 1 56 55] (aA 0 [bT 57 2 3, bD 58 1 57, aL 59 .add 58 1, bT 60 2 3, aP 1 60 59] (aA 0 [aQ 61 4 2, aJ 62 10, aP 4 4 61, aJ 5 62] .rt)))))))))))⟩
def Z6c : AFn := ⟨2, [.t 4], (aA 2 [cD 2 0 Z2 3 0, cD 3 1 Z2 3 1, aI 4] (.sq (.bl 0 (aA 0 [bT 6 2 0, bD 7 1 6, bT 8 3 0, bD 9 1 8, bB 10 .neq 7 9, aJ 5 10] (aB 5 (aA 0 [bT 11 2 0, bD 12 1 11, bT 13 3 0, bD 14 1 13, bB 15 .lss 12 14, aJ 4 15] .rt) (aA 0 [bT 17 2 1, bD 18 1 17, bT 19 3 1, bD 20 1 19, bB 21 .neq 18 20, aJ 16 21] (aB 16 (aA 0 [bT 22 2 1, bD 23 1 22, bT 24 3 1, bD 25 1 24, bB 26 .lss 23 25, aJ 4 26] .rt) .sk))))) (aA 0 [bT 27 2 2, bD 28 1 27, bT 29 3 2, bD 30 1 29, bB 31 .lss 28 30, aJ 4 31] .rt)))⟩
def Z6f : AFn := ⟨2, [.t 4], (aA 2 [cD 2 0 Z1 4 0, cE 4 1 Z0] (.sq (.rg 1 true [bT 8 2 0, bD 9 1 8, bT 10 2 1, bD 11 1 10, aJ 12 1, .o (.sl 13 (some Z3) (.t 11) none (some (.t 12)) none), aS 14 0 1 Zts 9 13, aJ 7 14, aO 15 7 0, aO 16 7 1, aJ 5 15, aJ 6 16]) (aA 0 [aJ 17 5, aJ 4 17] .rt)))⟩
def Z4h : ACode := (.sq (aA 0 [aJ 6 5, bT 7 2 2, bD 8 1 7, aK 9 8, bB 10 .lss 6 9] (aB 10 .sk (.xt 0))) (.sq (.bl 1 (aA 0 [bT 13 2 2, bD 14 1 13, aJ 15 5, bC 16 Z4 14 15, bT 17 16 0, bD 18 1 17, aJ 19 1, bB 20 .eql 18 19] (aB 20 (aA 0 [aJ 21 5, aJ 4 21] .rt) .sk))) (.rg 0 false [aJ 11 5, aL 12 .add 11 1, aJ 5 12])))
def Z7l : ACode := Z4h
theorem Zb1 : aG Z7l Z4h := fun _ _ => rfl
def Z7h : AFn := ⟨2, [.t 4], (aA 1 [cD 2 0 Z1 4 0, bF 4 0] (.sq (aA 0 [bF 5 0] (.bl 0 (.lp [1, 2, 5] Z7l))) (aA 0 [bF 4 (-1)] .rt)))⟩
def Zr : AFn := ⟨2, [.cell 4 4 true], (aA 5 [cD 3 0 Z1 4 1, .o (.al 4 1 Z1 [(.lit Z0 []), (.lit Z3 []), (.lit Z4 []), cO])] (aA 4 [aQ 8 4 3, cA 9 Vz 8, .o (.al 5 0 Z1 [(.lit Z0 []), (.lit Z3 []), (.lit Z4 []), cO]), aP 4 5 9] (aA 0 [bT 10 5 2, bD 11 1 10, aK 12 11, aJ 6 12] (.sq (aA 0 [aJ 13 0, cG 14 Z0f 13 70] (.bl 0 (aA 0 [aL 16 .eql 14 0, aJ 15 16] (aB 15 (.rg 0 false [aJ 17 0, aJ 18 0, aJ 19 0, aJ 20 0, bT 21 5 0, bD 22 1 21, cC 23 Z00 20 22, cC 24 Z00 19 23, cC 25 Z00 18 24, cC 26 Z00 17 25, bT 27 5 0, aP 1 27 26]) (aA 0 [aL 29 .eql 14 1, aJ 28 29] (aB 28 (aA 0 [bT 30 5 1, bD 31 1 30, aK 32 31, aL 33 .gtr 32 0] (aB 33 (.rg 0 false [bT 34 5 1, bD 35 1 34, .o (.sl 36 (some Z3) (.t 35) (some (cN 1)) none none), bT 37 5 1, aP 1 37 36]) .sk)) (aA 0 [aL 39 .eql 14 2, aJ 38 39] (aB 38 (aA 0 [aJ 40 6, aL 41 .gtr 40 0] (aB 41 (.rgk 0 [((.t 42), (.k .bad)), ((.t 48), (.k .bad))] [5] [bT 42 5 2, bD 43 1 42, aJ 44 0, aJ 45 6, cC 46 Z0f 44 45, aJ 47 0, bT 48 5 1, bD 49 1 48, aK 50 49, .o (.bll 51 Zy 1 [(cN (-1)), (.k cO), (.t 50), (cN 9)]), cC 52 Zan 47 51, bC 53 Z4 43 46, bT 54 53 1, aP 1 54 52]) .sk)) (aA 0 [aL 56 .eql 14 3, aJ 55 56] (aB 55 (aA 0 [aJ 57 6, aL 58 .gtr 57 0] (aB 58 (.rg 2 true [bT 59 5 2, bD 60 1 59, bT 61 5 2, bD 62 1 61, .o (.ia 63 Z4 (.t 62) (.k cO)), aQ 64 3 63, .o (.bsb 65 0 Z4 3 [(.t 64)]), .o (.apb 66 1 Z4 (.t 60) (.t 65)), bT 67 5 2, aP 1 67 66]) .sk)) (aA 0 [aL 69 .eql 14 4, aJ 68 69] (aB 68 (.rg 0 false [aJ 70 0, .o (.bll 71 Zy 1 [(.k cO), (cN 1), (cN 60), (cN 61)]), cC 72 Zan 70 71, bT 73 5 3, aP 1 73 72]) (aA 0 [aL 75 .eql 14 5, aJ 74 75] (aB 74 (aA 0 [aJ 76 6, aL 77 .gtr 76 0] (aB 77 (aA 0 [aJ 78 0, aJ 79 6, cC 80 Z0f 78 79, aJ 7 80] (.rgs 2 [((.t 81), (.t 89))] [bT 81 5 2, bD 82 1 81, aJ 83 7, bT 84 5 2, bD 85 1 84, aJ 86 7, bC 87 Z4 85 86, bT 88 87 2, bD 89 1 88, .o (.bld 90 0 [cO, cO, cP] []), aR 91 0 Z2 3 90, bE 92 1 Z2 89 91, bC 93 Z4 82 83, bT 94 93 2, aP 1 94 92])) .sk)) (aA 0 [aL 96 .eql 14 6, aJ 95 96] (aB 95 (aA 0 [aJ 97 6, aL 98 .gtr 97 0, aJ 99 98, aY 99 100 5 2, aZ 99 101 1 100, .g 99 true (.ia 102 Z4 (.t 101) (.k cO)), aY 99 103 102 2, aZ 99 104 1 103, aW 99 105 104, bY 99 106 .gtr 105 0, bA 107 99 106] (aB 107 (.rgk 0 [((.t 108), (.k .bad)), ((.t 111), (.k .bad))] [100000, 5] [bT 108 5 2, bD 109 1 108, .o (.ia 110 Z4 (.t 109) (.k cO)), bT 111 110 2, bD 112 1 111, aJ 113 0, cA 114 Wi 113, .o (.ia 115 Z2 (.t 112) (.k cO)), aP 3 115 114]) .sk)) .sk)))))))))))))))) (aA 0 [aQ 116 4 5, aP 4 4 116] .rt)))))⟩
def Z1i : ACode := (.sq (aA 0 [aJ 11 4, aL 12 .gtr 11 0] (aB 12 .sk (.xt 0))) (.sq (.bl 1 (.rg 0 false [aJ 15 0, aQ 16 4 3, .o (.dcf (some 17) Z3r [(.t 15), (.t 16)]), aP 4 3 17])) (.rg 0 false [aJ 13 4, aL 14 .sub 13 1, aJ 4 14])))
def Wz : ACode := Z1i
theorem Z80 : aG Wz Z1i := fun _ _ => rfl
def Vh : AFn := ⟨1, [.cell 2 4 true], (aA 4 [.o (.al 2 0 Z1 [(.lit Z0 []), (.lit Z3 []), (.lit Z4 []), cO])] (aA 7 [aJ 5 0, cA 6 Z3d 5, aN 7 0 3 Y3y 6, .o (.al 3 3 Z1 [(.lit Z0 []), (.lit Z3 []), (.lit Z4 []), cO]), aP 4 3 7] (.sq (aA 0 [aJ 8 0, .o (.bll 9 Zy 1 [(cN 6), (cN 10), (cN 16), (cN 24), (cN 3), (.k cO)]), cC 10 Zan 8 9, aJ 4 10] (.bl 0 (.lp [0, 2, 3, 4] Wz))) (aA 0 [aQ 18 4 3, cA 19 Vz 18, aP 4 2 19] .rt))))⟩
def Y3j : AFn := ⟨1, [.t 2], (aA 2 [cD 1 0 Z1 4 0, cE 2 1 Z0] (.sq (aA 0 [aQ 3 4 1, aN 4 0 0 Vf 3, aT 5 4] (aB 5 (aA 1 [bO 6 0 Z0 7, aJ 2 6] .rt) .sk)) (aA 1 [aQ 7 4 1, aN 8 0 1 Ys 7, aJ 2 8] .rt)))⟩
def Vv : ACode := (.sq (aA 0 [aJ 30 10, aJ 31 1, aK 32 31, bB 33 .lss 30 32] (aB 33 .sk (.xt 0))) (.sq (.bl 1 (aA 1 [aJ 36 0, aJ 37 1, aJ 38 10, bC 39 Z3 37 38, aQ 40 10 39, aJ 41 9, aU 42 0 1 Z5z 36 40 41, aJ 9 42] (.rg 1 false [aJ 44 0, aJ 45 1, aJ 46 10, bC 47 Z3 45 46, aQ 48 10 47, aS 49 0 1 Z0c 44 48, aJ 43 49, aO 50 43 0, aO 51 43 1, aJ 0 50]))) (.rg 0 false [aJ 34 10, aL 35 .add 34 1, aJ 10 35])))
def Z5i : ACode := Vv
theorem Z1x : aG Z5i Vv := fun _ _ => rfl
def Z7k : AFn := ⟨3, [.t 6], (aA 1 [cE 6 0 Z2] (aA 1 [aJ 12 0, aJ 13 1, aS 14 0 1 Zts 12 13, aJ 11 14, aO 15 11 0, aO 16 11 1, aJ 7 15, aJ 8 16] (.sq (aA 0 [aJ 17 8, aT 18 17, aJ 19 18, bG 19 20 2, bH 19 21 20, bG 19 22 0, bH 19 23 22, bX 19 24 .neq 21 23, bJ 25 19 24] (aB 25 (aA 1 [bO 26 0 Z2 3, aJ 6 26] .rt) .sk)) (aA 2 [bO 27 0 Z2 3, aJ 28 2, bE 29 1 Z2 27 28, aJ 9 29] (.sq (aA 0 [bF 10 0] (.bl 0 (.lp [0, 1, 9, 10] Z5i))) (aA 0 [aJ 52 9, aJ 6 52] .rt))))))⟩
def Z0z : AFn := ⟨2, [.cell 4 3 true], (aA 2 [cD 3 0 Z2 3 1, .o (.al 4 1 Z2 [cO, cO, cP])] (.sq (aA 0 [aJ 5 0, cG 6 Z0f 5 32] (.bl 0 (aA 0 [aL 8 .eql 6 0, aJ 7 8] (aB 7 (.rg 1 false [aJ 9 0, .o (.bsl 10 0 Zy 1 [(.k cO), (cN 3), (cN (-1)), (cN 1), (cN 2)]), cC 11 Zan 9 10, bT 12 3 0, aP 1 12 11]) (aA 0 [aL 14 .eql 6 1, aJ 13 14] (aB 13 (.rg 1 false [aJ 15 0, .o (.bsl 16 0 Zy 1 [(cN 1000), (cN (-1000)), (cN 5), (cN 9223372036854775807)]), cC 17 Zan 15 16, bT 18 3 1, aP 1 18 17]) (aA 0 [aL 20 .eql 6 2, aJ 19 20] (aB 19 (.rg 1 false [aJ 21 0, .o (.bsl 22 0 Vl 1 [(.k (.v (.string ⟨#[97, 98, 99, 100, 101]⟩))), (.k (.v (.string ⟨#[65]⟩))), (.k (.v (.string ⟨#[113]⟩))), (.k (.v (.string ⟨#[39]⟩)))]), cC 23 Zah 21 22, bT 24 3 2, aP 1 24 23]) .sk)))))))) (aA 0 [aQ 25 3 3, aP 3 4 25] .rt)))⟩
def Z2f : AFn := ⟨2, [.cell 4 3 true], (aA 1 [.o (.al 4 0 Z2 [cO, cO, cP])] (.sq (aA 0 [aJ 5 0, cG 6 Z0f 5 6, aL 7 .eql 6 0, aJ 8 7, bG 8 9 1, bI 8 10 .eql 9 0, bJ 11 8 10] (aB 11 (aA 0 [.o (.bld 12 0 [cO, cO, cP] []), aP 3 4 12] .rt) .sk)) (.sq (aA 0 [aJ 13 1, aL 14 .eql 13 1] (aB 14 (aA 1 [aJ 15 1, aJ 16 0, .o (.bsl 17 0 Zy 1 [(.k cO), (cN 1), (cN 2), (cN 3), (cN (-1)), (cN 7), (cN 999), (cN (-999))]), cC 18 Zan 16 17, .o (.bld 19 1 [cO, cO, cP] [(0, 1, (.t 15)), (1, 1, (.t 18))]), aP 3 4 19] .rt) .sk)) (aA 1 [aJ 20 1, aJ 21 0, .o (.bsl 22 0 Vl 1 [(.k cP), (.k (.v (.string ⟨#[97]⟩))), (.k (.v (.string ⟨#[98]⟩))), (.k (.v (.string ⟨#[97, 98]⟩))), (.k (.v (.string ⟨#[49, 50]⟩))), (.k (.v (.string ⟨#[45, 53]⟩))), (.k (.v (.string ⟨#[48, 48, 55]⟩))), (.k (.v (.string ⟨#[122, 122, 122, 122]⟩))), (.k (.v (.string ⟨#[51]⟩)))]), cC 23 Zah 21 22, .o (.bld 24 1 [cO, cO, cP] [(0, 1, (.t 20)), (2, 1, (.t 23))]), aP 3 4 24] .rt))))⟩
def Y2o : AFn := ⟨2, [.t 4, .t 5], (aA 1 [cE 4 0 Z0, aI 5] (.sq (aA 0 [aJ 6 0, aN 7 0 0 Wj 6, aT 8 7] (aB 8 (aA 1 [cE 4 0 Z0, aI 5] .rt) .sk)) (aA 1 [aJ 9 0, aJ 10 1, aS 11 0 1 Wq 9 10, aO 12 11 0, aO 13 11 1, aJ 4 12, aJ 5 13] .rt)))⟩
def Zfo : AFn := ⟨3, [.t 6], (aA 0 [aI 6] (aA 0 [aJ 7 0, aJ 8 1, bB 9 .geq 7 8, aJ 10 9, aV 10 11 0, aV 10 12 2, aX 10 13 .leq 11 12, bA 14 10 13, aJ 6 14] .rt))⟩
def Z09 : ACode := (aA 0 [bB 16 .lss 15 14] (.sq (aB 16 .sk (.xt 0)) (.sq (.bl 1 (aA 1 [bC 17 Z3 13 15, aQ 18 10 17, .o (.al 8 0 Z3 [cO, cP, cP, cP, cO, cQ, cQ, cO, cO, cP]), aP 10 8 18] (aA 1 [aJ 20 6, aQ 21 10 8, aS 22 0 1 Xb 20 21, aJ 19 22, aO 23 19 0, aO 24 19 1, aJ 9 23, aJ 10 24] (.sq (aA 0 [aJ 25 10, aT 26 25] (aB 26 (aA 1 [cE 4 0 Z0, aI 5] .rt) .sk)) (.rg 0 false [aJ 27 9, aJ 6 27]))))) (.rg 0 false [aL 28 .add 15 1, aJ 15 28]))))
def Z3u : ACode := Z09
theorem Z3t : aG Z3u Z09 := fun _ _ => rfl
def Z3c : AFn := ⟨2, [.t 4, .t 5], (aA 1 [cE 4 0 Z0, aI 5] (aA 1 [aJ 11 0, aN 12 0 1 Ze5 11, aJ 6 12] (.sq (aA 0 [aJ 13 1, aK 14 13, bF 15 0] (.bl 0 (.lp [6, 13, 14, 15] Z3u))) (aA 0 [aJ 29 6, aJ 4 29, aM 5] .rt))))⟩
def Wp : ACode := (aA 0 [bB 15 .lss 14 13] (.sq (aB 15 .sk (.xt 0)) (.sq (.bl 1 (aA 1 [aJ 16 14, bC 17 Z2 12 14, aQ 18 3 17, .o (.al 6 0 Z2 [cO, cO, cP]), aJ 5 16, aP 3 6 18] (.sq (.rg 0 true [aQ 19 3 6, aN 20 0 0 V8 19, aT 21 20, aJ 22 21, bK 22 23 3 6, bG 22 24 0, bG 22 25 5, bU 22 26 Z0 24 25, bW 22 27 26 1, bV 22 28 1 27, bN 22 29 0 0 Zz6 23 28, bM 22 30 29, bJ 31 22 30, aJ 32 31, bG 32 33 0, bG 32 34 5, bU 32 35 Z0 33 34, bW 32 36 35 2, bV 32 37 1 36, bG 32 38 37, aY 38 39 6 0, aZ 38 40 1 39, bY 38 41 .eql 40 0, cI 32 42 38 41, bJ 43 32 42]) (aB 43 (aA 0 [aI 4] .rt) .sk)))) (.rg 0 false [aL 44 .add 14 1, aJ 14 44]))))
def Z6h : ACode := Wp
theorem Z0a : aG Z6h Wp := fun _ _ => rfl
def Z3g : AFn := ⟨2, [.t 4], (aA 0 [aI 4] (.sq (aA 0 [aJ 7 1, aK 8 7, aJ 9 0, aK 10 9, bB 11 .neq 8 10] (aB 11 (aA 0 [aI 4] .rt) .sk)) (.sq (aA 0 [aJ 12 1, aK 13 12, bF 14 0] (.bl 0 (.lp [0, 12, 13, 14] Z6h))) (aA 0 [aM 4] .rt))))⟩
def Zj2 : ACode := (aA 0 [bB 9 .lss 8 7] (.sq (aB 9 .sk (.xt 0)) (.sq (.bl 1 (aA 0 [aJ 10 8, aJ 5 10] (aA 4 [aJ 11 1, aJ 12 0, aJ 13 5, bC 14 Zb 12 13, aQ 15 5 14, .o (.callv (some 16) 0 4 (.t 11) [(.t 15)])] (aB 16 (aA 0 [aJ 17 5, aJ 4 17] .rt) .sk)))) (.rg 0 false [aL 18 .add 8 1, aJ 8 18]))))
def Zr8 : ACode := Zj2
theorem Y03 : aG Zr8 Zj2 := fun _ _ => rfl
def Y26 : AFn := ⟨2, [.t 4], (aA 0 [bF 4 0] (.sq (aA 0 [aJ 6 0, aK 7 6, bF 8 0] (.bl 0 (.lp [0, 1, 7, 8] Zr8))) (aA 0 [bF 4 (-1)] .rt)))⟩
def Z34 : ACode := (aA 0 [bB 28 .lss 27 26] (.sq (aB 28 .sk (.xt 1)) (.sq (.bl 2 (aA 0 [aJ 29 27, aJ 3 29] (aA 0 [bT 30 1 2, bD 31 1 30, aJ 32 3, .o (.ix 33 (.t 31) (.t 32)), aJ 4 33] (aA 0 [aJ 34 4, .o (.bin 35 .lss (.t 34) (.k (.v (.int .u8 97)))), aJ 36 35, bG 36 37 4, .g 36 false (.bin 38 .gtr (.t 37) (.k (.v (.int .u8 122)))), bJ 39 36 38, aJ 40 39, aV 40 41 4, .g 40 true (.bin 42 .lss (.t 41) (.k (.v (.int .u8 48)))), aV 40 43 42, bG 43 44 4, .g 43 false (.bin 45 .gtr (.t 44) (.k (.v (.int .u8 57)))), bZ 40 46 43 45, bA 47 40 46, aJ 48 47, aV 48 49 4, .g 48 true (.bin 50 .neq (.t 49) (.k (.v (.int .u8 45)))), bA 51 48 50] (aB 51 (aA 0 [aI 2] .rt) .sk))))) (.rg 0 false [aL 52 .add 27 1, aJ 27 52]))))
def Z6j : ACode := Z34
theorem Za3 : aG Z6j Z34 := fun _ _ => rfl
def Z95 : AFn := ⟨1, [.t 2], (aA 1 [cD 1 0 Z2 3 0, aI 2] (.sq (aA 0 [bT 5 1 0, bD 6 1 5] (.bl 0 (aA 0 [aL 8 .eql 6 0, aJ 7 8] (aB 7 (aA 0 [aQ 9 3 1, .o (.bld 10 0 [cO, cO, cP] []), cJ 11 [0, 0, 1] 9 10, aJ 2 11] .rt) (aA 0 [aL 13 .eql 6 1, aJ 12 13] (aB 12 (aA 0 [bT 14 1 1, bD 15 1 14, .o (.call (some 16) 0 0 V5 [(.t 15), (cN (-999)), (cN 999)]), aJ 17 16, aY 17 18 1 2, aZ 17 19 1 18, .g 17 true (.bin 20 .eql (.t 19) (.k cP)), bA 21 17 20, aJ 2 21] .rt) (aA 0 [aL 23 .eql 6 2, aJ 22 23] (aB 22 (.sq (aA 0 [bT 24 1 2, bD 25 1 24, .o (.len 26 true (.t 25)), bF 27 0] (.bl 1 (.lp [1, 26, 27] Z6j))) (aA 0 [bT 53 1 1, bD 54 1 53, aL 55 .eql 54 0, aJ 56 55, aY 56 57 1 2, aZ 56 58 1 57, .g 56 true (.len 59 true (.t 58)), bY 56 60 .leq 59 4, bA 61 56 60, aJ 2 61] .rt)) .sk)))))))) (aA 0 [aI 2] .rt)))⟩
def Zc2 : ACode := (aA 0 [bB 15 .lss 14 13] (.sq (aB 15 .sk (.xt 0)) (.sq (.bl 1 (aA 1 [bC 16 Z3 12 14, aQ 17 10 16, .o (.al 9 0 Z3 [cO, cP, cP, cP, cO, cQ, cQ, cO, cO, cP]), aP 10 9 17] (aA 1 [aJ 18 0, aQ 19 10 9, aJ 20 7, aU 21 0 1 Y0w 18 19 20, aJ 7 21] (.rg 1 false [aJ 23 0, aQ 24 10 9, aS 25 0 1 Xb 23 24, aJ 22 25, aO 26 22 0, aO 27 22 1, aJ 0 26])))) (.rg 0 false [aL 28 .add 14 1, aJ 14 28]))))
def Zpy : ACode := Zc2
theorem Zis : aG Zpy Zc2 := fun _ _ => rfl
def Y6h : AFn := ⟨3, [.t 6], (aA 1 [cE 6 0 Z2] (aA 1 [aJ 10 2, aN 11 0 1 Zu2 10, aJ 7 11] (.sq (aA 0 [aJ 12 1, aK 13 12, bF 14 0] (.bl 0 (.lp [0, 7, 12, 13, 14] Zpy))) (aA 0 [aJ 29 7, aJ 6 29] .rt))))⟩
def Vb : AFn := ⟨2, [.t 4], (aA 1 [cD 3 0 Zb 5 1, aI 4] (.sq (aA 0 [aJ 6 0, aN 7 0 0 Xu 6, aT 8 7, aJ 9 8, bG 9 10 0, bW 9 11 3 0, bV 9 12 1 11, bN 9 13 0 0 Xe 10 12, bI 9 14 .lss 13 0, bJ 15 9 14, aJ 16 15, bW 16 17 3 2, bK 16 18 3 17, bL 16 19 0 0 Wl 18, bM 16 20 19, bJ 21 16 20, aJ 22 21, bW 22 23 3 1, bV 22 24 1 23, bI 22 25 .lss 24 1, bJ 26 22 25, aJ 27 26, bW 27 28 3 1, bV 27 29 1 28, bI 27 30 .gtr 29 3, bJ 31 27 30] (aB 31 (aA 0 [aI 4] .rt) .sk)) (aA 0 [aJ 32 0, aJ 33 0, bT 34 3 0, bD 35 1 34, aS 36 0 0 Xe 33 35, bC 37 Z0 32 36, bT 38 37 1, bD 39 1 38, aJ 5 39] (aA 0 [bT 40 3 2, bT 41 40 0, bD 42 1 41, aJ 43 5, bB 44 .eql 42 43, aJ 45 44, bW 45 46 3 2, bW 45 47 46 0, bV 45 48 1 47, bI 45 49 .eql 48 0, bG 45 50 49, aY 50 51 3 1, aZ 50 52 1 51, bY 50 53 .eql 52 1, cI 45 54 50 53, bJ 55 45 54, aJ 4 55] .rt))))⟩
def Z6a : AFn := ⟨2, [.t 4], (aA 2 [cD 2 0 Z2 3 0, cD 3 1 Z2 3 1, aI 4] (.sq (.bl 0 (aA 0 [bT 6 2 0, bD 7 1 6, bT 8 3 0, bD 9 1 8, bB 10 .neq 7 9, aJ 5 10] (aB 5 (aA 0 [bT 11 2 0, bD 12 1 11, bT 13 3 0, bD 14 1 13, bB 15 .lss 12 14, aJ 4 15] .rt) (aA 0 [bT 17 2 1, bD 18 1 17, bT 19 3 1, bD 20 1 19, bB 21 .neq 18 20, aJ 16 21] (aB 16 (aA 0 [bT 22 2 1, bD 23 1 22, bT 24 3 1, bD 25 1 24, bB 26 .lss 23 25, aJ 4 26] .rt) .sk))))) (aA 0 [bT 27 2 2, bD 28 1 27, bT 29 3 2, bD 30 1 29, bB 31 .lss 28 30, aJ 4 31] .rt)))⟩
def Z97 : AFn := ⟨1, [.t 2], (aA 1 [cD 1 0 Z0 7 0, aI 2] (aA 0 [bT 3 1 0, bD 4 1 3, aN 5 0 0 Z4w 4, aJ 6 5, aY 6 7 1 1, aZ 6 8 1 7, .g 6 true (.call (some 9) 0 0 V5 [(.t 8), (cN 1), (cN 2)]), bA 10 6 9, aJ 11 10, aY 11 12 1 4, bP 11 13 3 12, cH 11 14 0 0 V8 13, bA 15 11 14, aJ 16 15, aY 16 17 1 4, bP 16 18 3 17, aY 16 19 1 1, aZ 16 20 1 19, bQ 16 21 0 0 Zz6 18 20, bA 22 16 21, aJ 23 22, aY 23 24 1 3, aZ 23 25 1 24, cL 23 26 25, aV 23 27 26, bW 27 28 1 4, bW 27 29 28 0, bV 27 30 1 29, bI 27 31 .eql 30 0, bZ 23 32 27 31, bA 33 23 32, aJ 2 33] .rt))⟩
def Zii : ACode := (aA 0 [bB 9 .lss 8 7] (.sq (aB 9 .sk (.xt 0)) (.sq (.bl 1 (aA 0 [aJ 10 8, aJ 5 10] (aA 4 [aJ 11 1, aJ 12 0, aJ 13 5, bC 14 Z0 12 13, aQ 15 7 14, .o (.callv (some 16) 0 4 (.t 11) [(.t 15)])] (aB 16 (aA 0 [aJ 17 5, aJ 4 17] .rt) .sk)))) (.rg 0 false [aL 18 .add 8 1, aJ 8 18]))))
def Zq1 : ACode := Zii
theorem Zwv : aG Zq1 Zii := fun _ _ => rfl
def Y30 : AFn := ⟨2, [.t 4], (aA 0 [bF 4 0] (.sq (aA 0 [aJ 6 0, aK 7 6, bF 8 0] (.bl 0 (.lp [0, 1, 7, 8] Zq1))) (aA 0 [bF 4 (-1)] .rt)))⟩
def Z69 : AFn := ⟨2, [.t 3], (aA 1 [cD 2 0 Z0 7 0, aI 3] (aA 0 [bT 4 2 0, bD 5 1 4, bD 6 1 1, bB 7 .eql 5 6, aJ 3 7] .rt))⟩
def Z1h : ACode := (.sq (aA 0 [aJ 4 3, aJ 5 0, aK 6 5, bB 7 .lss 4 6] (aB 7 .sk (.xt 0))) (.sq (.bl 1 (aA 0 [aJ 10 0, aJ 11 3, bC 12 Z0 10 11, aQ 13 7 12, aN 14 0 0 Z5v 13, aT 15 14, aJ 16 15, bG 16 17 0, bG 16 18 0, bG 16 19 3, bU 16 20 Z0 18 19, bW 16 21 20 0, bV 16 22 1 21, bN 16 23 0 0 Xe 17 22, bG 16 24 3, bX 16 25 .neq 23 24, bJ 26 16 25] (aB 26 (aA 0 [aI 2] .rt) .sk))) (.rg 0 false [aJ 8 3, aL 9 .add 8 1, aJ 3 9])))
def Z44 : ACode := Z1h
theorem Z84 : aG Z44 Z1h := fun _ _ => rfl
def Z3e : AFn := ⟨1, [.t 2], (aA 0 [aI 2] (.sq (aA 0 [bF 3 0] (.bl 0 (.lp [0, 3] Z44))) (aA 0 [aJ 27 0, aK 28 27, aL 29 .geq 28 1, aJ 30 29, aV 30 31 0, aW 30 32 31, bY 30 33 .leq 32 5, bA 34 30 33, aJ 2 34] .rt)))⟩
def Z38 : AFn := ⟨2, [.t 4, .t 5], (aA 2 [cD 3 0 Z3 10 1, cE 4 1 Z0, aI 5] (.sq (aA 0 [aJ 7 0, aN 8 0 0 Xu 7, aT 9 8] (aB 9 (aA 1 [bO 10 0 Z0 7, aJ 4 10, aI 5] .rt) .sk)) (aA 1 [aJ 11 0, aQ 12 10 3, aS 13 0 1 Yj 11 12, aJ 6 13] (.sq (aA 0 [aJ 14 6, aN 15 0 0 Xu 14, aT 16 15] (aB 16 (aA 2 [bO 17 0 Z0 7, aJ 18 0, bE 19 1 Z0 17 18, aJ 4 19, aI 5] .rt) .sk)) (aA 0 [aJ 20 6, aJ 4 20, aM 5] .rt)))))⟩
def Xd : ACode := (.sq (aA 0 [aJ 16 5, aJ 17 1, aK 18 17, bB 19 .lss 16 18] (aB 19 .sk (.xt 0))) (.sq (.bl 1 (.sq (.rg 0 true [aJ 22 1, aJ 23 5, bC 24 Z2 22 23, aQ 25 3 24, aN 26 0 0 Wl 25, aT 27 26, aJ 28 27, bG 28 29 1, bG 28 30 5, bU 28 31 Z2 29 30, bW 28 32 31 0, bV 28 33 1 32, bI 28 34 .neq 33 0, bG 28 35 34, aV 35 36 1, aV 35 37 5, bR 35 38 Z2 36 37, aY 35 39 38 0, aZ 35 40 1 39, aV 35 41 0, aV 35 42 5, bR 35 43 Z0 41 42, aY 35 44 43 1, aZ 35 45 1 44, aX 35 46 .neq 40 45, cI 28 47 35 46, bJ 48 28 47, aJ 49 48, bG 49 50 0, bG 49 51 5, bU 49 52 Z0 50 51, bW 49 53 52 2, bV 49 54 1 53, bG 49 55 54, aV 55 56 1, aV 55 57 5, bR 55 58 Z2 56 57, aY 55 59 58 0, aZ 55 60 1 59, bY 55 61 .eql 60 0, cI 49 62 55 61, bJ 63 49 62]) (aB 63 (aA 0 [aI 4] .rt) .sk))) (.rg 0 false [aJ 20 5, aL 21 .add 20 1, aJ 5 21])))
def Z0b : ACode := Xd
theorem Wm : aG Z0b Xd := fun _ _ => rfl
def Z1t : AFn := ⟨2, [.t 4], (aA 0 [aI 4] (.sq (aA 0 [aJ 6 0, aN 7 0 0 Xu 6, aT 8 7, aJ 9 8, bG 9 10 1, bH 9 11 10, bG 9 12 0, bH 9 13 12, bX 9 14 .neq 11 13, bJ 15 9 14] (aB 15 (aA 0 [aI 4] .rt) .sk)) (.sq (aA 0 [bF 5 0] (.bl 0 (.lp [0, 1, 5] Z0b))) (aA 0 [aM 4] .rt))))⟩
def Zl0 : ACode := (aA 0 [bB 9 .lss 8 7] (.sq (aB 9 .sk (.xt 0)) (.sq (.bl 1 (aA 0 [aJ 10 8, aJ 5 10] (aA 4 [aJ 11 1, aJ 12 0, aJ 13 5, bC 14 Z4 12 13, aQ 15 3 14, .o (.callv (some 16) 0 4 (.t 11) [(.t 15)])] (aB 16 (aA 0 [aJ 17 5, aJ 4 17] .rt) .sk)))) (.rg 0 false [aL 18 .add 8 1, aJ 8 18]))))
def Zpm : ACode := Zl0
theorem Zx1 : aG Zpm Zl0 := fun _ _ => rfl
def Y2r : AFn := ⟨2, [.t 4], (aA 0 [bF 4 0] (.sq (aA 0 [aJ 6 0, aK 7 6, bF 8 0] (.bl 0 (.lp [0, 1, 7, 8] Zpm))) (aA 0 [bF 4 (-1)] .rt)))⟩
def Y6r : AFn := ⟨2, [.t 3], (aA 1 [cD 2 0 Z4 3 0, aI 3] (aA 0 [bT 4 2 0, bD 5 1 4, bD 6 1 1, bB 7 .eql 5 6, aJ 3 7] .rt))⟩
def Z0m : ACode := (.sq (aA 0 [aJ 63 11, aJ 64 9, bB 65 .lss 63 64] (aB 65 .sk (.xt 2))) (.sq (.bl 3 (.sq (.rg 0 true [aJ 68 2, aJ 69 11, bC 70 Zk 68 69, bT 71 70 0, bD 72 1 71, aJ 73 2, aJ 74 9, bC 75 Zk 73 74, bT 76 75 0, bD 77 1 76, bB 78 .eql 72 77]) (aB 78 (aA 0 [aJ 79 8, aJ 6 79, aI 7] .rt) .sk))) (.rg 0 false [aJ 66 11, aL 67 .add 66 1, aJ 11 67])))
def Z52 : ACode := Z0m
theorem Z5d : aG Z52 Z0m := fun _ _ => rfl
def X8 : ACode := (.sq (aA 0 [aJ 15 9, aJ 16 2, aK 17 16, bB 18 .lss 15 17] (aB 18 .sk (.xt 0))) (.sq (.bl 1 (aA 0 [aJ 21 0, aJ 22 2, aJ 23 9, bC 24 Zk 22 23, bT 25 24 0, bD 26 1 25, aS 27 0 0 Xe 21 26, aJ 10 27] (.sq (.sq (.rg 0 true [aJ 28 10, aL 29 .lss 28 0, aJ 30 29, bG 30 31 2, bG 30 32 9, bU 30 33 Zk 31 32, bW 30 34 33 1, bK 30 35 3 34, bL 30 36 0 0 Wl 35, bM 30 37 36, bJ 38 30 37, aJ 39 38, bG 39 40 2, bG 39 41 9, bU 39 42 Zk 40 41, bW 39 43 42 1, bW 39 44 43 0, bV 39 45 1 44, bI 39 46 .neq 45 0, bG 39 47 46, aV 47 48 2, aV 47 49 9, bR 47 50 Zk 48 49, aY 47 51 50 1, aY 47 52 51 0, aZ 47 53 1 52, aV 47 54 0, aV 47 55 10, bR 47 56 Z0 54 55, aY 47 57 56 1, aZ 47 58 1 57, aX 47 59 .neq 53 58, cI 39 60 47 59, bJ 61 39 60]) (aB 61 (aA 0 [aJ 62 8, aJ 6 62, aI 7] .rt) .sk)) (.sq (aA 0 [bF 11 0] (.bl 2 (.lp [0, 2, 8, 9, 10, 11] Z52))) (.rg 0 false [aJ 80 8, aJ 81 10, aJ 82 2, aJ 83 9, bC 84 Zk 82 83, bT 85 84 1, aQ 86 3 85, bC 87 Z2 80 81, aP 3 87 86]))))) (.rg 0 false [aJ 19 9, aL 20 .add 19 1, aJ 9 20])))
def Z5p : ACode := X8
theorem Xz : aG Z5p X8 := fun _ _ => rfl
def Z4o : AFn := ⟨3, [.t 6, .t 7], (aA 1 [cE 6 0 Z2, aI 7] (aA 2 [bO 12 0 Z2 3, aJ 13 1, bE 14 1 Z2 12 13, aJ 8 14] (.sq (aA 0 [bF 9 0] (.bl 0 (.lp [0, 2, 8, 9] Z5p))) (aA 0 [aJ 88 8, aJ 6 88, aM 7] .rt))))⟩
def Z2i : ACode := (.sq (aA 0 [aJ 6 4, aJ 7 0, aK 8 7, bB 9 .lss 6 8] (aB 9 .sk (.xt 0))) (.sq (.bl 1 (.rg 2 false [aJ 12 3, aJ 13 0, aJ 14 4, bC 15 Z0 13 14, bT 16 15 4, aQ 17 3 16, aR 18 0 Z2 3 17, bE 19 1 Z2 12 18, aJ 3 19])) (.rg 0 false [aJ 10 4, aL 11 .add 10 1, aJ 4 11])))
def Z59 : ACode := Z2i
theorem Z8r : aG Z59 Z2i := fun _ _ => rfl
def Z73 : AFn := ⟨1, [.t 2], (aA 1 [cE 2 0 Z2] (aA 1 [bO 5 0 Z2 3, aJ 3 5] (.sq (aA 0 [bF 4 0] (.bl 0 (.lp [0, 3, 4] Z59))) (aA 0 [aJ 20 3, aJ 2 20] .rt))))⟩
def Z0k : ACode := (.sq (aA 0 [aJ 13 7, bT 14 2 2, bD 15 1 14, aK 16 15, bB 17 .lss 13 16] (aB 17 .sk (.xt 0))) (.sq (.bl 1 (.sq (.rg 0 true [bT 20 2 2, bD 21 1 20, aJ 22 7, bC 23 Z4 21 22, bT 24 23 0, bD 25 1 24, bT 26 3 0, bD 27 1 26, bB 28 .neq 25 27]) (aB 28 (.rg 3 true [aJ 29 6, aQ 30 4 2, bT 31 2 2, bD 32 1 31, aJ 33 7, bC 34 Z4 32 33, aQ 35 3 34, aS 36 0 1 X2 30 35, aR 37 1 Zp 1 36, bE 38 2 Zp 29 37, aJ 6 38]) .sk))) (.rg 0 false [aJ 18 7, aL 19 .add 18 1, aJ 7 19])))
def Z5b : ACode := Z0k
theorem Z5m : aG Z5b Z0k := fun _ _ => rfl
def Z2h : AFn := ⟨2, [.t 4], (aA 2 [cD 2 0 Z1 4 0, cD 3 1 Z4 3 1, bF 4 0] (aA 1 [aQ 8 4 2, aN 9 0 1 Ys 8, aJ 5 9] (aA 1 [bT 10 3 2, bD 11 1 10, aR 12 0 Zp 1 11, aJ 6 12] (.sq (aA 0 [bF 7 0] (.bl 0 (.lp [2, 3, 5, 6, 7] Z5b))) (.sq (.bl 2 (aA 0 [aJ 40 5, bT 41 3 2, bD 42 1 41, aS 43 0 0 Y9 40 42, aT 44 43, aJ 39 44] (aB 39 (aA 0 [bF 4 2] .rt) (aA 0 [aJ 46 5, aJ 47 6, aS 48 0 0 Z1g 46 47, aJ 45 48] (aB 45 (aA 0 [bF 4 3] .rt) .sk))))) (aA 0 [bF 4 0] .rt))))))⟩
def Zx : AFn := ⟨2, [.t 4], (aA 1 [cE 4 0 Z0] (aA 2 [bO 7 0 Z0 7, aJ 8 1, bE 9 1 Z0 7 8, aJ 5 9] (.sq (aA 0 [aJ 10 5, aK 11 10, aL 12 .eql 11 0] (aB 12 (aA 0 [aJ 13 5, aJ 4 13] .rt) .sk)) (aA 0 [aJ 14 0, aJ 15 5, aK 16 15, cC 17 Z0f 14 16, aJ 6 17] (.sq (aA 0 [aJ 18 0, cG 19 Z0f 18 60] (.bl 0 (aA 0 [aL 21 .eql 19 0, aJ 20 21] (aB 20 (.rg 1 false [aJ 22 5, aJ 23 6, aJ 24 0, .o (.bsl 25 0 Vl 1 [(.k cP), (.k (.v (.string ⟨#[65]⟩))), (.k (.v (.string ⟨#[97, 98, 99, 100]⟩))), (.k (.v (.string ⟨#[97]⟩)))]), cC 26 Zah 24 25, bC 27 Z0 22 23, bT 28 27 0, aP 1 28 26]) (aA 0 [aL 30 .eql 19 1, aJ 29 30] (aB 29 (.rg 1 false [aJ 31 5, aJ 32 6, aJ 33 0, .o (.bsl 34 0 Zy 1 [(.k cO), (cN 3), (cN 1), (cN 2)]), cC 35 Zan 33 34, bC 36 Z0 31 32, bT 37 36 1, aP 1 37 35]) (aA 0 [aL 39 .eql 19 2, aJ 38 39] (aB 38 (.rg 0 false [aJ 40 5, aJ 41 6, aJ 42 0, cA 43 Wi 42, bC 44 Z0 40 41, bT 45 44 4, aP 3 45 43]) (aA 0 [aL 47 .eql 19 3, aJ 46 47] (aB 46 (aA 2 [aJ 48 5, aJ 49 5, aJ 50 6, bC 51 Z0 49 50, aQ 52 7 51, aR 53 0 Z0 7 52, bE 54 1 Z0 48 53, aJ 4 54] .rt) (aA 0 [aL 56 .eql 19 4, aJ 55 56] (aB 55 (aA 1 [bO 57 0 Z0 7, aJ 4 57] .rt) (aA 0 [aL 59 .eql 19 5, aJ 58 59] (aB 58 (.rg 0 false [aJ 60 5, aJ 61 6, aJ 62 5, aJ 63 6, bC 64 Z0 62 63, bT 65 64 3, bD 66 1 65, aT 67 66, bC 68 Z0 60 61, bT 69 68 3, aP 1 69 67]) .sk)))))))))))))) (aA 0 [aJ 70 5, aJ 4 70] .rt))))))⟩
def Y7s : AFn := ⟨1, [.cell 2 4 true], (aA 4 [.o (.al 2 0 Z1 [(.lit Z0 []), (.lit Z3 []), (.lit Z4 []), cO])] (.sq (aA 0 [aJ 3 0, aN 4 0 0 Xu 3, aT 5 4] (aB 5 (aA 3 [.o (.bld 6 0 [(.lit Z0 []), (.lit Z3 []), (.lit Z4 []), cO] []), aP 4 2 6] .rt) .sk)) (aA 5 [bO 7 0 Z0 7, aJ 8 0, bE 9 1 Z0 7 8, .o (.bld 10 2 [(.lit Z0 []), (.lit Z3 []), (.lit Z4 []), cO] [(0, 1, (.t 9)), (3, 1, (cN 1))]), aP 4 2 10] .rt)))⟩
def Z08 : ACode := (.sq (aA 0 [aJ 10 4, aL 11 .gtr 10 0] (aB 11 .sk (.xt 0))) (.sq (.bl 1 (aA 2 [aJ 14 0, aJ 15 0, .o (.call (some 16) 0 1 Wk []), cC 17 Zah 15 16, cC 18 Z3m 14 17, .o (.al 5 1 Z0 [cP, cO, cQ, cQ, cO, cO, cP]), aP 7 5 18] (aA 0 [aJ 19 3, bT 20 5 0, bD 21 1 20, aS 22 0 0 Xe 19 21, aL 23 .lss 22 0] (aB 23 (.rg 2 false [aJ 24 3, aQ 25 7 5, aR 26 0 Z0 7 25, bE 27 1 Z0 24 26, aJ 3 27]) .sk)))) (.rg 0 false [aJ 12 4, aL 13 .sub 12 1, aJ 4 13])))
def Z40 : ACode := Z08
theorem Z3z : aG Z40 Z08 := fun _ _ => rfl
def Z6k : AFn := ⟨1, [.t 2], (aA 1 [cE 2 0 Z0] (aA 1 [bO 6 0 Z0 7, aJ 3 6] (.sq (aA 0 [aJ 7 0, cG 8 Z0f 7 4, .o (.bin 9 .add (cN 1) (.t 8)), aJ 4 9] (.bl 0 (.lp [0, 3, 4] Z40))) (aA 0 [aJ 28 3, aJ 2 28] .rt))))⟩
def Z1r : AFn := ⟨3, [.t 6], (aA 2 [cD 4 0 Z3 10 1, cE 6 1 Z2] (aA 0 [aJ 9 0, bT 10 4 1, bD 11 1 10, aS 12 0 0 Xe 9 11, aJ 7 12] (aA 2 [bO 13 0 Z2 3, aJ 14 2, bE 15 1 Z2 13 14, aJ 8 15] (.sq (aA 0 [bT 16 4 0, bD 17 1 16] (.bl 0 (aA 0 [aL 19 .eql 17 1, aJ 18 19] (aB 18 (aA 2 [aJ 20 8, bT 21 4 3, bT 22 21 4, aQ 23 3 22, aR 24 0 Z2 3 23, bE 25 1 Z2 20 24, aJ 6 25] .rt) (aA 0 [aL 27 .eql 17 2, aJ 26 27] (aB 26 (.sq (.rg 3 true [bO 28 0 Z2 3, aJ 29 2, aJ 30 7, .o (.sl 31 (some Z2) (.t 29) none (some (.t 30)) none), bE 32 1 Z2 28 31, aJ 33 2, aJ 34 7, aL 35 .add 34 1, .o (.sl 36 (some Z2) (.t 33) (some (.t 35)) none none), bE 37 2 Z2 32 36, aJ 6 37]) .rt) (aA 0 [aL 39 .eql 17 4, aJ 38 39] (aB 38 (.rg 0 true [aJ 40 8, aJ 41 7, aJ 42 2, aJ 43 7, bC 44 Z2 42 43, aQ 45 3 44, bT 46 4 3, bT 47 46 1, bD 48 1 47, aS 49 0 0 Z1u 45 48, bC 50 Z2 40 41, aP 3 50 49]) .sk)))))))) (aA 0 [aJ 51 8, aJ 6 51] .rt)))))⟩
def Y65 : AFn := ⟨1, [.t 2], (aA 1 [cE 2 0 Z0] (aA 1 [aJ 3 0, aN 4 0 1 Zh7 3, cA 5 Zwc 4, aJ 2 5] .rt))⟩
def Yf : AFn := ⟨2, [.t 4, .t 5], (aA 2 [cD 3 0 Z3 10 1, cE 4 1 Z0, aI 5] (aA 1 [aJ 8 0, aN 9 0 1 Ze5 8, aJ 6 9] (aA 0 [aJ 10 0, bT 11 3 1, bD 12 1 11, aS 13 0 0 Wb 10 12, aJ 7 13] (.sq (aA 0 [aQ 14 10 3, aN 15 0 0 Zhs 14, aT 16 15, aJ 17 16, bW 17 18 3 0, bV 17 19 1 18, bI 17 20 .neq 19 1, bG 17 21 20, aV 21 22 7, bY 21 23 .lss 22 0, cI 17 24 21 23, bJ 25 17 24] (aB 25 (aA 0 [aJ 26 6, aJ 4 26, aI 5] .rt) .sk)) (.sq (aA 0 [bT 27 3 0, bD 28 1 27] (.bl 0 (aA 0 [aL 30 .eql 28 1, aJ 29 30] (aB 29 (.sq (aA 0 [bT 31 3 3, bT 32 31 2, bD 33 1 32, aJ 34 33, aY 34 35 3 3, aY 34 36 35 4, aY 34 37 36 0, aZ 34 38 1 37, bY 34 39 .eql 38 0, bA 40 34 39] (aB 40 (aA 0 [aJ 41 6, aJ 4 41, aI 5] .rt) .sk)) (.rg 2 false [aJ 42 6, bT 43 3 3, aQ 44 7 43, aR 45 0 Z0 7 44, bE 46 1 Z0 42 45, aJ 6 46])) (aA 0 [aL 48 .eql 28 2, aJ 47 48] (aB 47 (.rg 0 false [aJ 49 6, aJ 50 7, aJ 51 7, aL 52 .add 51 1, .o (.dcall (some 53) Zrj [(.t 49), (.t 50), (.t 52)]), aJ 6 53]) (aA 0 [aL 55 .eql 28 3, aJ 54 55] (aB 54 (.rg 0 false [aJ 56 6, aJ 57 7, bT 58 3 2, bD 59 1 58, bC 60 Z0 56 57, bT 61 60 0, aP 1 61 59]) (aA 0 [aL 63 .eql 28 4, aJ 62 63] (aB 62 (.sq (.sq (.rg 0 true [bT 64 3 3, bT 65 64 1, bD 66 1 65, aJ 67 6, aJ 68 7, bC 69 Z0 67 68, bT 70 69 1, bD 71 1 70, bB 72 .eql 66 71]) (aB 72 (aA 0 [aJ 73 6, aJ 4 73, aI 5] .rt) .sk)) (.rg 0 true [aJ 74 6, aJ 75 7, aJ 76 6, aJ 77 7, bT 78 3 3, bT 79 78 1, bD 80 1 79, aJ 81 6, aJ 82 7, bC 83 Z0 81 82, bT 84 83 4, aQ 85 3 84, bT 86 3 3, bT 87 86 1, bD 88 1 87, aS 89 0 0 Z1q 85 88, bC 90 Z0 74 75, bT 91 90 1, aP 1 91 80, bC 92 Z0 76 77, bT 93 92 4, aP 3 93 89])) .sk)))))))))) (.sq (aA 0 [aJ 94 6, aN 95 0 0 Wj 94, aT 96 95] (aB 96 (aA 1 [aJ 97 0, aN 98 0 1 Ze5 97, aJ 4 98, aI 5] .rt) .sk)) (aA 1 [aJ 99 6, aN 100 0 1 Ze5 99, aJ 4 100, aM 5] .rt)))))))⟩
def Y5r : AFn := ⟨2, [.t 4], (aA 1 [cD 2 0 Z2 3 0, aI 4] (aA 0 [bT 5 2 0, bD 6 1 5, aL 7 .eql 6 0, aJ 8 7, bW 8 9 2 0, bV 8 10 1 9, bG 8 11 1, bX 8 12 .eql 10 11, bJ 13 8 12, aJ 4 13] .rt))⟩
def Y6u : AFn := ⟨1, [.t 2], (aA 1 [cE 2 0 Z2] (aA 1 [aJ 3 0, aN 4 0 1 Zhu 3, cA 5 Zz5 4, aJ 2 5] .rt))⟩
def Zuf : AFn := ⟨3, [.t 6], (aA 2 [cD 4 0 Z3 10 1, cE 6 1 Z2] (aA 1 [aJ 9 2, aN 10 0 1 Zu2 9, aJ 7 10] (aA 0 [aJ 11 0, bT 12 4 1, bD 13 1 12, aS 14 0 0 Wb 11 13, aJ 8 14] (.sq (aA 0 [bT 15 4 0, bD 16 1 15] (.bl 0 (aA 0 [aL 18 .eql 16 1, aJ 17 18] (aB 17 (.rg 2 false [aJ 19 7, bT 20 4 3, bT 21 20 4, aQ 22 3 21, aR 23 0 Z2 3 22, bE 24 1 Z2 19 23, aJ 7 24]) (aA 0 [aL 26 .eql 16 2, aJ 25 26] (aB 25 (.rg 0 false [aJ 27 7, aJ 28 8, aJ 29 8, aL 30 .add 29 1, .o (.dcall (some 31) Zrz [(.t 27), (.t 28), (.t 30)]), aJ 7 31]) (aA 0 [aL 33 .eql 16 4, aJ 32 33] (aB 32 (.rg 0 true [aJ 34 7, aJ 35 8, aJ 36 7, aJ 37 8, bC 38 Z2 36 37, aQ 39 3 38, bT 40 4 3, bT 41 40 1, bD 42 1 41, aS 43 0 0 Z1q 39 42, bC 44 Z2 34 35, aP 3 44 43]) .sk)))))))) (aA 1 [aJ 45 7, aN 46 0 1 Zu2 45, aJ 6 46] .rt)))))⟩
def Z9g : AFn := ⟨1, [.t 2], (aA 1 [cD 1 0 Z2 3 0, aI 2] (.sq (aA 0 [bT 3 1 0, bD 4 1 3] (.bl 0 (aA 0 [aL 6 .eql 4 0, aJ 5 6] (aB 5 (aA 0 [aQ 7 3 1, .o (.bld 8 0 [cO, cO, cP] []), cJ 9 [0, 0, 1] 7 8, aJ 2 9] .rt) (aA 0 [aL 11 .eql 4 1, aJ 10 11] (aB 10 (aA 0 [bT 12 1 2, bD 13 1 12, .o (.bin 14 .eql (.t 13) (.k cP)), aJ 15 14, aY 15 16 1 1, aZ 15 17 1 16, cH 15 18 0 0 Z1p 17, bA 19 15 18, aJ 2 19] .rt) (aA 0 [aL 21 .eql 4 2, aJ 20 21] (aB 20 (aA 0 [bT 22 1 1, bD 23 1 22, aL 24 .eql 23 0, aJ 25 24, aY 25 26 1 2, aZ 25 27 1 26, cH 25 28 0 0 Z4e 27, bA 29 25 28, aJ 2 29] .rt) .sk)))))))) (aA 0 [aI 2] .rt)))⟩
def Z2d : ACode := (aA 0 [bB 7 .lss 6 5] (.sq (aB 7 .sk (.xt 0)) (.sq (.bl 1 (aA 0 [aJ 8 6, aJ 3 8] (aA 0 [aJ 9 0, aJ 10 3, .o (.ix 11 (.t 9) (.t 10)), .o (.bin 12 .lss (.t 11) (.k (.v (.int .u8 97)))), aJ 13 12, bG 13 14 0, bG 13 15 3, .g 13 false (.ix 16 (.t 14) (.t 15)), .g 13 false (.bin 17 .gtr (.t 16) (.k (.v (.int .u8 122)))), bJ 18 13 17] (aB 18 (aA 0 [aI 2] .rt) .sk)))) (.rg 0 false [aL 19 .add 6 1, aJ 6 19]))))
def Z5f : ACode := Z2d
theorem Z8s : aG Z5f Z2d := fun _ _ => rfl
def Z4c : AFn := ⟨1, [.t 2], (aA 0 [aI 2] (.sq (aA 0 [aJ 4 0, .o (.len 5 true (.t 4)), bF 6 0] (.bl 0 (.lp [0, 5, 6] Z5f))) (aA 0 [aJ 20 0, .o (.len 21 true (.t 20)), .o (.call (some 22) 0 0 V5 [(.t 21), (cN 1), (cN 3)]), aJ 2 22] .rt)))⟩
def Z98 : AFn := ⟨1, [.t 2], (aA 1 [cD 1 0 Z0 7 0, aI 2] (aA 0 [bT 3 1 0, bD 4 1 3, aN 5 0 0 Z4p 4, aJ 6 5, aY 6 7 1 1, aZ 6 8 1 7, bY 6 9 .eql 8 1, aV 6 10 9, bW 10 11 1 1, bV 10 12 1 11, bI 10 13 .eql 12 2, bZ 6 14 10 13, bA 15 6 14, aJ 16 15, aY 16 17 1 4, bP 16 18 3 17, cH 16 19 0 0 Wl 18, bA 20 16 19, aJ 21 20, aY 21 22 1 4, aY 21 23 22 0, aZ 21 24 1 23, bY 21 25 .eql 24 0, aV 21 26 25, bW 26 27 1 4, bW 26 28 27 0, bV 26 29 1 28, bW 26 30 1 1, bV 26 31 1 30, bX 26 32 .eql 29 31, bZ 21 33 26 32, bA 34 21 33, aJ 35 34, aY 35 36 1 3, aZ 35 37 1 36, cL 35 38 37, aV 35 39 38, bW 39 40 1 4, bW 39 41 40 0, bV 39 42 1 41, bI 39 43 .eql 42 0, bZ 35 44 39 43, bA 45 35 44, aJ 2 45] .rt))⟩
def X0 : AFn := ⟨2, [.t 4], (aA 2 [cD 3 0 Z3 10 1, cE 4 1 Z0] (aA 0 [aJ 7 0, bT 8 3 1, bD 9 1 8, aS 10 0 0 Xe 7 9, aJ 5 10] (aA 2 [bO 11 0 Z0 7, aJ 12 0, bE 13 1 Z0 11 12, aJ 6 13] (.sq (.bl 0 (aA 0 [bT 15 3 0, bD 16 1 15, aL 17 .eql 16 1, aJ 18 17, aY 18 19 3 1, aZ 18 20 1 19, .g 18 true (.bin 21 .eql (.t 20) (.k cP)), bA 22 18 21, aJ 23 22, aY 23 24 3 2, aZ 23 25 1 24, .g 23 true (.bin 26 .eql (.t 25) (.k cP)), bA 27 23 26, aJ 28 27, aY 28 29 3 3, aY 28 30 29 2, aZ 28 31 1 30, cL 28 32 31, aV 28 33 32, bW 33 34 3 3, bW 33 35 34 4, bW 33 36 35 0, bV 33 37 1 36, bI 33 38 .neq 37 0, bZ 28 39 33 38, bA 40 28 39, aJ 14 40] (aB 14 (aA 2 [aJ 41 6, bT 42 3 3, aQ 43 7 42, aR 44 0 Z0 7 43, bE 45 1 Z0 41 44, aJ 4 45] .rt) (.sq (.rg 0 true [bT 47 3 0, bD 48 1 47, aL 49 .eql 48 1, aJ 50 49, bG 50 51 5, bI 50 52 .lss 51 0, bJ 53 50 52, aJ 54 53, bW 54 55 3 3, bK 54 56 7 55, bK 54 57 10 3, bL 54 58 0 0 Z13 57, cM 54 59 [1, 0, 2, 2, 0, 0, 1] 56 58, bJ 60 54 59, aJ 46 60]) (aB 46 (aA 1 [bO 61 0 Z0 7, aJ 4 61] .rt) (aA 0 [bT 63 3 0, bD 64 1 63, aL 65 .eql 64 2, aJ 66 65, aY 66 67 3 2, aZ 66 68 1 67, .g 66 true (.bin 69 .eql (.t 68) (.k cP)), bA 70 66 69, aJ 62 70] (aB 62 (aA 1 [aJ 71 0, aJ 72 5, aS 73 0 1 Z3p 71 72, aJ 4 73] .rt) (aA 0 [bT 75 3 0, bD 76 1 75, aL 77 .eql 76 3, aJ 74 77] (aB 74 (aA 0 [aJ 78 6, aJ 79 5, bT 80 3 2, bD 81 1 80, bC 82 Z0 78 79, bT 83 82 0, aP 1 83 81] (aA 0 [aJ 84 6, aJ 4 84] .rt)) (.sq (.rg 0 true [bT 86 3 0, bD 87 1 86, aL 88 .eql 87 4, aJ 89 88, aY 89 90 3 2, aZ 89 91 1 90, .g 89 true (.bin 92 .eql (.t 91) (.k cP)), bA 93 89 92, aJ 94 93, aY 94 95 3 3, aY 94 96 95 1, aZ 94 97 1 96, aV 94 98 0, aV 94 99 5, bR 94 100 Z0 98 99, aY 94 101 100 1, aZ 94 102 1 101, aX 94 103 .neq 97 102, bA 104 94 103, aJ 85 104]) (aB 85 (aA 0 [aJ 105 6, aJ 106 5, bT 107 3 3, bT 108 107 1, bD 109 1 108, bC 110 Z0 105 106, bT 111 110 1, aP 1 111 109] (.sq (.rg 0 true [aJ 112 6, aJ 113 5, aJ 114 0, aJ 115 5, bC 116 Z0 114 115, bT 117 116 4, aQ 118 3 117, bT 119 3 3, bT 120 119 1, bD 121 1 120, aS 122 0 0 Z1u 118 121, bC 123 Z0 112 113, bT 124 123 4, aP 3 124 122]) (aA 0 [aJ 125 6, aJ 4 125] .rt))) .sk))))))))))) (aA 1 [bO 126 0 Z0 7, aJ 4 126] .rt)))))⟩
def Z5x : AFn := ⟨2, [.cell 4 7 true], (aA 1 [.o (.al 4 0 Z0 [cP, cO, cQ, cQ, cO, cO, cP])] (aA 1 [aJ 6 1, aJ 7 0, cG 8 Z0f 7 2, .o (.bin 9 .add (cN 1) (.t 8)), aJ 10 0, cG 11 Z0f 10 4, aL 12 .eql 11 0, .o (.bld 13 0 [cP, cO, cQ, cQ, cO, cO, cP] [(0, 1, (.t 6)), (1, 1, (.t 9)), (2, 1, (.t 12))]), .o (.al 5 0 Z0 [cP, cO, cQ, cQ, cO, cO, cP]), aP 7 5 13] (.sq (aA 0 [aJ 14 0, cG 15 Z0f 14 4, aL 16 .eql 15 0] (aB 16 (aA 0 [bT 17 5 3, .o (.st 1 (.t 17) (.k (.v (.bool true))))] (aA 0 [aQ 18 7 5, aP 7 4 18] .rt)) .sk)) (aA 0 [aJ 19 0, bT 20 5 1, bD 21 1 20, cC 22 Xk 19 21, bT 23 5 4, aP 3 23 22] (aA 0 [aQ 24 7 5, aP 7 4 24] .rt)))))⟩
def Z5w : AFn := ⟨2, [.t 4], (aA 0 [bF 4 0] (.sq (aA 0 [aJ 5 0, aJ 6 1, bB 7 .gtr 5 6] (aB 7 (aA 0 [aJ 8 0, aJ 4 8] .rt) .sk)) (aA 0 [aJ 9 1, aJ 4 9] .rt)))⟩
def Z0s : AFn := ⟨2, [.cell 4 4 true, .t 5], (aA 5 [cD 2 0 Z1 4 0, .o (.al 4 1 Z1 [(.lit Z0 []), (.lit Z3 []), (.lit Z4 []), cO]), bF 5 0] (aA 0 [aQ 7 4 2, aJ 8 1, .o (.callx (some 9) 0 0 Z5j [(.t 7), (.t 8)]), aJ 6 9] (.sq (aA 0 [aJ 10 6, aL 11 .lss 10 0] (aB 11 (aA 0 [aQ 12 4 2, aP 4 4 12, bF 5 5] .rt) .sk)) (.sq (.rgs 3 [((.t 19), (.t 13))] [.o (.bsb 13 0 Z4 3 []), bT 14 2 2, bD 15 1 14, aJ 16 6, .o (.sl 17 (some Z4) (.t 15) none (some (.t 16)) none), .o (.apb 18 1 Z4 (.t 13) (.t 17)), bT 19 2 2, bD 20 1 19, aJ 21 6, aL 22 .add 21 1, .o (.sl 23 (some Z4) (.t 20) (some (.t 22)) none none), .o (.apb 24 2 Z4 (.t 18) (.t 23)), bT 25 2 2, aP 1 25 24]) (aA 0 [aQ 26 4 2, aP 4 4 26, bF 5 0] .rt)))))⟩
def Zeg : ACode := (.sq (aA 0 [aJ 31 10, bT 32 8 2, bD 33 1 32, aK 34 33, bB 35 .lss 31 34] (aB 35 .sk (.xt 0))) (.sq (.bl 1 (.sq (.rg 1 true [aJ 38 9, aQ 39 4 8, bT 40 8 2, bD 41 1 40, aJ 42 10, bC 43 Z4 41 42, aQ 44 3 43, .o (.callx (some 45) 0 1 X2 [(.t 39), (.t 44)]), aS 46 1 0 Y9 38 45, aT 47 46]) (aB 47 (aA 0 [aQ 48 4 2, aP 4 4 48, bF 5 2] .rt) .sk))) (.rg 0 false [aJ 36 10, aL 37 .add 36 1, aJ 10 37])))
def Z8t : ACode := Zeg
theorem Zpk : aG Z8t Zeg := fun _ _ => rfl
def Zcp : AFn := ⟨2, [.cell 4 4 true, .t 5], (aA 6 [cD 2 0 Z1 4 0, cD 3 1 Z3 10 1, .o (.al 4 2 Z1 [(.lit Z0 []), (.lit Z3 []), (.lit Z4 []), cO]), bF 5 0] (.sq (.rg 2 true [aQ 12 4 2, .o (.callx (some 13) 0 1 Ys [(.t 12)]), aQ 14 10 3, aS 15 1 1 Z0c 13 14, aJ 11 15, aO 16 11 0, aO 17 11 1, aJ 6 16, aJ 7 17]) (.sq (aA 0 [aJ 18 7, aT 19 18] (aB 19 (aA 0 [aQ 20 4 2, aP 4 4 20, bF 5 1] .rt) .sk)) (aA 4 [aQ 21 4 2, cA 22 Vz 21, .o (.al 8 0 Z1 [(.lit Z0 []), (.lit Z3 []), (.lit Z4 []), cO]), aP 4 8 22] (aA 2 [bT 23 8 1, bD 24 1 23, aQ 25 10 3, aR 26 0 Z3 10 25, bE 27 1 Z3 24 26, bT 28 8 1, aP 1 28 27] (aA 1 [aQ 29 4 8, .o (.callx (some 30) 0 1 Ys [(.t 29)]), aJ 9 30] (.sq (aA 0 [bF 10 0] (.bl 0 (.lp [2, 4, 8, 9, 10] Z8t))) (.sq (aA 0 [bT 49 2 1, bD 50 1 49, aK 51 50, aL 52 .geq 51 8] (aB 52 (aA 0 [aQ 53 4 2, aP 4 4 53, bF 5 4] .rt) .sk)) (aA 0 [aQ 54 4 8, aP 4 4 54, bF 5 0] .rt)))))))))⟩
def Z4q : AFn := ⟨2, [.cell 4 10 true], (aA 1 [.o (.al 4 0 Z3 [cO, cP, cP, cP, cO, cQ, cQ, cO, cO, cP])] (aA 1 [aJ 8 0, .o (.call (some 9) 0 1 Wk []), cC 10 Zah 8 9, aJ 5 10] (.sq (aA 0 [aJ 11 1, aK 12 11, aL 13 .gtr 12 0, aJ 14 13, aV 14 15 0, cB 14 16 Z0f 15 6, bY 14 17 .gtr 16 0, bA 18 14 17] (aB 18 (.rg 0 false [aJ 19 1, aJ 20 0, aJ 21 1, aK 22 21, cC 23 Z0f 20 22, bC 24 Z0 19 23, bT 25 24 0, bD 26 1 25, aJ 5 26]) .sk)) (aA 1 [aJ 27 0, cG 28 Z0f 27 4, .o (.bin 29 .add (cN 1) (.t 28)), aJ 30 5, .o (.bld 31 0 [cO, cP, cP, cP, cO, cQ, cQ, cO, cO, cP] [(0, 1, (.t 29)), (1, 1, (.t 30))]), .o (.al 6 0 Z3 [cO, cP, cP, cP, cO, cQ, cQ, cO, cO, cP]), aP 10 6 31] (.sq (aA 0 [bT 32 6 0, bD 33 1 32] (.bl 0 (aA 0 [aL 35 .eql 33 1, aJ 34 35] (aB 34 (aA 0 [bT 36 6 1, .o (.st 1 (.t 36) (.k cP))] (aA 1 [aJ 37 0, aJ 38 0, .o (.call (some 39) 0 1 Wk []), cC 40 Zah 38 39, cC 41 Z3m 37 40, bT 42 6 3, aP 7 42 41] (aA 0 [bT 43 6 3, bT 44 43 2, bD 45 1 44, aJ 46 45, aY 46 47 6 3, aY 46 48 47 4, aY 46 49 48 0, aZ 46 50 1 49, bY 46 51 .eql 50 0, bA 52 46 51, aJ 53 52, aV 53 54 0, cB 53 55 Z0f 54 4, bY 53 56 .gtr 55 0, bA 57 53 56] (aB 57 (.rg 0 false [bT 58 6 3, bT 59 58 2, .o (.st 1 (.t 59) (.k cQ))]) .sk)))) (aA 0 [aL 61 .eql 33 3, aJ 60 61] (aB 60 (.rg 1 false [aJ 62 0, .o (.bsl 63 0 Vl 1 [(.k (.v (.string ⟨#[97]⟩))), (.k (.v (.string ⟨#[98]⟩))), (.k (.v (.string ⟨#[99]⟩))), (.k (.v (.string ⟨#[100]⟩))), (.k (.v (.string ⟨#[101]⟩))), (.k (.v (.string ⟨#[120]⟩))), (.k (.v (.string ⟨#[121, 121]⟩)))]), cC 64 Zah 62 63, bT 65 6 2, aP 1 65 64]) (aA 0 [aL 67 .eql 33 4, aJ 66 67] (aB 66 (aA 0 [aJ 68 0, cG 69 Z0f 68 2, .o (.bin 70 .add (cN 1) (.t 69)), bT 71 6 3, bT 72 71 1, aP 1 72 70] (aA 0 [aJ 73 1, aJ 74 5, aS 75 0 0 Xe 73 74, aJ 7 75] (aA 0 [aJ 76 7, aL 77 .geq 76 0, aJ 78 77, aV 78 79 0, cB 78 80 Z0f 79 6, bY 78 81 .gtr 80 0, bA 82 78 81] (aB 82 (.rg 0 false [aJ 83 1, aJ 84 7, bC 85 Z0 83 84, bT 86 85 1, bD 87 1 86, .o (.bin 88 .sub (cN 3) (.t 87)), bT 89 6 3, bT 90 89 1, aP 1 90 88]) .sk)))) .sk)))))))) (.sq (aA 0 [aJ 91 0, cG 92 Z0f 91 50] (.bl 1 (aA 0 [aL 94 .eql 92 0, aJ 93 94] (aB 93 (.rg 1 false [aJ 95 0, .o (.bsl 96 0 Zy 1 [(.k cO), (cN 5), (cN (-1)), (cN 2)]), cC 97 Zan 95 96, bT 98 6 0, aP 1 98 97]) (aA 0 [aL 100 .eql 92 1, aJ 99 100] (aB 99 (.rg 1 false [aJ 101 0, .o (.bsl 102 0 Vl 1 [(.k cP), (.k (.v (.string ⟨#[65]⟩))), (.k (.v (.string ⟨#[97, 98, 99, 100]⟩))), (.k (.v (.string ⟨#[97]⟩)))]), cC 103 Zah 101 102, bT 104 6 1, aP 1 104 103]) (aA 0 [aL 106 .eql 92 2, aJ 105 106] (aB 105 (.rg 1 false [aJ 107 0, .o (.bsl 108 0 Vl 1 [(.k (.v (.string ⟨#[113]⟩))), (.k (.v (.string ⟨#[65]⟩))), (.k (.v (.string ⟨#[97, 98, 99, 100]⟩)))]), cC 109 Zah 107 108, bT 110 6 2, aP 1 110 109]) (aA 0 [aL 112 .eql 92 3, aJ 111 112] (aB 111 (.rg 1 false [aJ 113 0, .o (.bsl 114 0 Zy 1 [(.k cO), (cN 3), (cN 1)]), cC 115 Zan 113 114, bT 116 6 3, bT 117 116 1, aP 1 117 115]) (aA 0 [aL 119 .eql 92 4, aJ 118 119] (aB 118 (.rg 0 false [bT 120 6 3, bT 121 120 2, bD 122 1 121, aT 123 122, bT 124 6 3, bT 125 124 2, aP 1 125 123]) .sk)))))))))))) (aA 0 [aQ 126 10 6, aP 10 4 126] .rt)))))))⟩
def W6 : AFn := ⟨2, [.cell 4 3 true], (aA 2 [cD 2 0 Z2 3 0, .o (.al 4 1 Z2 [cO, cO, cP])] (aA 0 [bT 8 2 2, bD 9 1 8, aN 10 0 0 Z12 9, aJ 7 10, aO 11 7 0, aO 12 7 1, aJ 5 11, aJ 6 12] (.sq (.bl 0 (aA 0 [aQ 14 3 2, aN 15 0 0 Wl 14, aT 16 15, aJ 17 16, bG 17 18 1, bI 17 19 .lss 18 1, bJ 20 17 19, aJ 21 20, bG 21 22 1, bI 21 23 .gtr 22 2, bJ 24 21 23, aJ 25 24, bW 25 26 2 0, bV 25 27 1 26, bI 25 28 .eql 27 0, bJ 29 25 28, aJ 13 29] (aB 13 (aA 0 [.o (.bld 30 0 [cO, cO, cP] []), aP 3 4 30] .rt) (aA 0 [bT 32 2 0, bD 33 1 32, aJ 34 1, bB 35 .eql 33 34, aJ 31 35] (aB 31 (aA 0 [aQ 36 3 2, aP 3 4 36] .rt) (aA 0 [aJ 38 1, aL 39 .eql 38 2, aJ 37 39] (aB 37 (aA 0 [aJ 40 1, bT 41 2 1, bD 42 1 41, aN 43 0 0 Z0w 42, .o (.bld 44 0 [cO, cO, cP] [(0, 1, (.t 40)), (2, 1, (.t 43))]), aP 3 4 44] .rt) (aA 0 [aJ 46 6, aJ 47 46, aV 47 48 5, cH 47 49 0 0 Z1p 48, bA 50 47 49, aJ 45 50] (aB 45 (aA 0 [aJ 51 1, aJ 52 5, .o (.bld 53 0 [cO, cO, cP] [(0, 1, (.t 51)), (1, 1, (.t 52))]), aP 3 4 53] .rt) .sk))))))))) (aA 0 [.o (.bld 54 0 [cO, cO, cP] []), aP 3 4 54] .rt))))⟩
def Zwm : AFn := ⟨1, [.t 2], (aA 1 [cE 2 0 Z0] (aA 0 [aJ 3 0, aJ 4 0, aK 5 4, aJ 6 0, aK 7 6, .o (.sl 8 (some Z0) (.t 3) none (some (.t 5)) (some (.t 7))), aJ 2 8] .rt))⟩
def Ze9 : AFn := ⟨1, [.t 2], (aA 1 [cD 1 0 Z3 10 0, aI 2] (aA 1 [bT 4 1 0, bD 5 1 4, .o (.bld 6 0 [cO, cP, cP, cP, cO, cQ, cQ, cO, cO, cP] [(0, 1, (.t 5))]), .o (.al 3 0 Z3 [cO, cP, cP, cP, cO, cQ, cQ, cO, cO, cP]), aP 10 3 6] (.sq (aA 0 [bT 7 1 0, bD 8 1 7] (.bl 0 (aA 0 [aL 10 .eql 8 1, aJ 9 10] (aB 9 (.rg 0 false [bT 11 1 3, aQ 12 7 11, bT 13 3 3, aP 7 13 12]) (aA 0 [aL 15 .eql 8 2, aJ 14 15] (aB 14 (.rg 0 false [bT 16 1 1, bD 17 1 16, bT 18 3 1, aP 1 18 17]) (aA 0 [aL 20 .eql 8 3, aJ 19 20] (aB 19 (.rgs 0 [((.t 23), (.t 25))] [bT 21 1 1, bD 22 1 21, bT 23 1 2, bD 24 1 23, bT 25 3 1, aP 1 25 22, bT 26 3 2, aP 1 26 24]) (aA 0 [aL 28 .eql 8 4, aJ 27 28] (aB 27 (.rgs 0 [((.t 32), (.t 34))] [bT 29 1 1, bD 30 1 29, bT 31 1 3, bT 32 31 1, bD 33 1 32, bT 34 3 1, aP 1 34 30, bT 35 3 3, bT 36 35 1, aP 1 36 33]) (aA 0 [aI 2] .rt))))))))))) (aA 0 [aQ 37 10 3, aQ 38 10 1, cJ 39 [0, 1, 1, 1, 0, 2, 2, 0, 0, 1] 37 38, aJ 2 39] .rt))))⟩
def Zy5 : AFn := ⟨3, [.t 6], (aA 1 [cE 6 0 Z0] (aA 0 [aJ 8 0, aJ 9 1, aJ 10 2, aJ 11 0, aK 12 11, .o (.sl 13 (some Z0) (.t 8) (some (.t 9)) (some (.t 10)) (some (.t 12)))] (.sq (aA 0 [aJ 14 1, aJ 15 2, bB 16 .eql 14 15] (aB 16 (aA 0 [aJ 17 0, aJ 6 17] .rt) .sk)) (aA 0 [aJ 18 0, aK 19 18, aJ 7 19] (.sq (.rg 1 true [aJ 20 0, aJ 21 1, .o (.sl 22 (some Z0) (.t 20) none (some (.t 21)) none), aJ 23 0, aJ 24 2, .o (.sl 25 (some Z0) (.t 23) (some (.t 24)) none none), bE 26 0 Z0 22 25, aJ 0 26]) (aA 0 [aJ 27 0, aJ 28 0, aK 29 28, aJ 30 7, .o (.sl 31 (some Z0) (.t 27) (some (.t 29)) (some (.t 30)) none), .o (.clr Z0 [cP, cO, cQ, cQ, cO, cO, cP] (.t 31))] (aA 0 [aJ 32 0, aJ 6 32] .rt)))))))⟩
def Vx : AFn := ⟨2, [.cell 4 3 true], (aA 2 [cD 2 0 Z2 3 0, .o (.al 4 1 Z2 [cO, cO, cP])] (.sq (.bl 0 (aA 0 [aQ 6 3 2, aN 7 0 0 V8 6, aT 8 7, aJ 9 8, bW 9 10 2 0, bV 9 11 1 10, bI 9 12 .eql 11 0, bJ 13 9 12, aJ 14 13, bG 14 15 1, .g 14 false (.call (some 16) 0 0 V5 [(.t 15), (cN 1), (cN 2)]), bM 14 17 16, bJ 18 14 17, aJ 5 18] (aB 5 (aA 0 [.o (.bld 19 0 [cO, cO, cP] []), aP 3 4 19] .rt) (aA 0 [bT 21 2 0, bD 22 1 21, aJ 23 1, bB 24 .eql 22 23, aJ 20 24] (aB 20 (aA 0 [aQ 25 3 2, aP 3 4 25] .rt) (aA 0 [aJ 27 1, aL 28 .eql 27 2, aJ 26 28] (aB 26 (aA 0 [bT 29 2 1, bD 30 1 29, aN 31 0 0 Ve 30, .o (.bld 32 0 [cO, cO, cP] [(0, 1, (cN 2)), (2, 1, (.t 31))]), aP 3 4 32] .rt) .sk))))))) (aA 0 [bT 33 2 2, bD 34 1 33, aN 35 0 0 Yv 34, aP 3 4 35] .rt)))⟩
def Zx8 : AFn := ⟨1, [.t 2], (aA 1 [cE 2 0 Z2] (aA 0 [aJ 3 0, aJ 4 0, aK 5 4, aJ 6 0, aK 7 6, .o (.sl 8 (some Z2) (.t 3) none (some (.t 5)) (some (.t 7))), aJ 2 8] .rt))⟩
def Zy8 : AFn := ⟨3, [.t 6], (aA 1 [cE 6 0 Z2] (aA 0 [aJ 8 0, aJ 9 1, aJ 10 2, aJ 11 0, aK 12 11, .o (.sl 13 (some Z2) (.t 8) (some (.t 9)) (some (.t 10)) (some (.t 12)))] (.sq (aA 0 [aJ 14 1, aJ 15 2, bB 16 .eql 14 15] (aB 16 (aA 0 [aJ 17 0, aJ 6 17] .rt) .sk)) (aA 0 [aJ 18 0, aK 19 18, aJ 7 19] (.sq (.rg 1 true [aJ 20 0, aJ 21 1, .o (.sl 22 (some Z2) (.t 20) none (some (.t 21)) none), aJ 23 0, aJ 24 2, .o (.sl 25 (some Z2) (.t 23) (some (.t 24)) none none), bE 26 0 Z2 22 25, aJ 0 26]) (aA 0 [aJ 27 0, aJ 28 0, aK 29 28, aJ 30 7, .o (.sl 31 (some Z2) (.t 27) (some (.t 29)) (some (.t 30)) none), .o (.clr Z2 [cO, cO, cP] (.t 31))] (aA 0 [aJ 32 0, aJ 6 32] .rt)))))))⟩
def Z8y : AFn := ⟨1, [.t 2], (aA 0 [aI 2] (aA 0 [aJ 3 0, aL 4 .geq 3 (-999), aJ 5 4, aV 5 6 0, bY 5 7 .leq 6 999, bA 8 5 7, aJ 2 8] .rt))⟩
def Z26 : ACode := (.sq (aA 0 [aJ 4 3, aJ 5 0, .o (.len 6 true (.t 5)), bB 7 .lss 4 6] (aB 7 .sk (.xt 0))) (.sq (.bl 1 (aA 0 [aJ 10 0, aJ 11 3, .o (.ix 12 (.t 10) (.t 11)), .o (.bin 13 .lss (.t 12) (.k (.v (.int .u8 97)))), aJ 14 13, bG 14 15 0, bG 14 16 3, .g 14 false (.ix 17 (.t 15) (.t 16)), .g 14 false (.bin 18 .gtr (.t 17) (.k (.v (.int .u8 122)))), bJ 19 14 18, aJ 20 19, aV 20 21 0, aV 20 22 3, .g 20 true (.ix 23 (.t 21) (.t 22)), .g 20 true (.bin 24 .lss (.t 23) (.k (.v (.int .u8 48)))), aV 20 25 24, bG 25 26 0, bG 25 27 3, .g 25 false (.ix 28 (.t 26) (.t 27)), .g 25 false (.bin 29 .gtr (.t 28) (.k (.v (.int .u8 57)))), bZ 20 30 25 29, bA 31 20 30, aJ 32 31, aV 32 33 0, aV 32 34 3, .g 32 true (.ix 35 (.t 33) (.t 34)), .g 32 true (.bin 36 .neq (.t 35) (.k (.v (.int .u8 45)))), bA 37 32 36] (aB 37 (aA 0 [aI 2] .rt) .sk))) (.rg 0 false [aJ 8 3, aL 9 .add 8 1, aJ 3 9])))
def Z5c : ACode := Z26
theorem Z8p : aG Z5c Z26 := fun _ _ => rfl
def Z7m : AFn := ⟨1, [.t 2], (aA 0 [aI 2] (.sq (aA 0 [bF 3 0] (.bl 0 (.lp [0, 3] Z5c))) (aA 0 [aJ 38 0, .o (.len 39 true (.t 38)), aL 40 .leq 39 4, aJ 2 40] .rt)))⟩
def Z1w : ACode := (.sq (aA 0 [aJ 4 3, aJ 5 0, .o (.len 6 true (.t 5)), bB 7 .lss 4 6] (aB 7 .sk (.xt 0))) (.sq (.bl 1 (aA 0 [aJ 10 0, aJ 11 3, .o (.ix 12 (.t 10) (.t 11)), .o (.bin 13 .lss (.t 12) (.k (.v (.int .u8 97)))), aJ 14 13, bG 14 15 0, bG 14 16 3, .g 14 false (.ix 17 (.t 15) (.t 16)), .g 14 false (.bin 18 .gtr (.t 17) (.k (.v (.int .u8 122)))), bJ 19 14 18] (aB 19 (aA 0 [aI 2] .rt) .sk))) (.rg 0 false [aJ 8 3, aL 9 .add 8 1, aJ 3 9])))
def Z5g : ACode := Z1w
theorem Z8o : aG Z5g Z1w := fun _ _ => rfl
def Z4n : AFn := ⟨1, [.t 2], (aA 0 [aI 2] (.sq (aA 0 [bF 3 0] (.bl 0 (.lp [0, 3] Z5g))) (aA 0 [aJ 20 0, .o (.len 21 true (.t 20)), aL 22 .geq 21 1, aJ 23 22, aV 23 24 0, .g 23 true (.len 25 true (.t 24)), bY 23 26 .leq 25 3, bA 27 23 26, aJ 2 27] .rt)))⟩
def Z4r : AFn := ⟨1, [.cell 2 7 true], (aA 2 [cD 1 0 Z3 10 0, .o (.al 2 1 Z0 [cP, cO, cQ, cQ, cO, cO, cP])] (.sq (aA 0 [bT 3 1 0, bD 4 1 3, aL 5 .eql 4 4] (aB 5 (aA 0 [bT 6 1 3, bT 7 6 1, bD 8 1 7, .o (.bld 9 0 [cP, cO, cQ, cQ, cO, cO, cP] [(1, 1, (.t 8))]), aP 7 2 9] .rt) .sk)) (aA 0 [.o (.bld 10 0 [cP, cO, cQ, cQ, cO, cO, cP] []), aP 7 2 10] .rt)))⟩
def Z8n : AFn := ⟨2, [.t 4], (aA 1 [cE 4 0 Z0] (.sq (.rg 3 true [bO 5 0 Z0 7, aJ 6 0, aJ 7 1, .o (.sl 8 (some Z0) (.t 6) none (some (.t 7)) none), bE 9 1 Z0 5 8, aJ 10 0, aJ 11 1, aL 12 .add 11 1, .o (.sl 13 (some Z0) (.t 10) (some (.t 12)) none none), bE 14 2 Z0 9 13, aJ 4 14]) .rt))⟩
def Vp : ACode := (.sq (aA 0 [aJ 39 6, aJ 40 0, .o (.len 41 true (.t 40)), bB 42 .lss 39 41] (aB 42 .sk (.xt 0))) (.sq (.bl 1 (.sq (aA 0 [aJ 45 0, aJ 46 6, .o (.ix 47 (.t 45) (.t 46)), .o (.bin 48 .lss (.t 47) (.k (.v (.int .u8 48)))), aJ 49 48, bG 49 50 0, bG 49 51 6, .g 49 false (.ix 52 (.t 50) (.t 51)), .g 49 false (.bin 53 .gtr (.t 52) (.k (.v (.int .u8 57)))), bJ 54 49 53] (aB 54 (aA 0 [bF 2 0, aI 3] .rt) .sk)) (.rg 0 false [aJ 55 5, aL 56 .mul 55 10, aJ 57 0, aJ 58 6, .o (.ix 59 (.t 57) (.t 58)), .o (.bin 60 .sub (.t 59) (.k (.v (.int .u8 48)))), .o (.cv 61 .i64 (.t 60)), bB 62 .add 56 61, aJ 5 62]))) (.rg 0 false [aJ 43 6, aL 44 .add 43 1, aJ 6 44])))
def Z2j : ACode := Vp
theorem Z22 : aG Z2j Vp := fun _ _ => rfl
def Zbf : AFn := ⟨1, [.t 2, .t 3], (aA 0 [bF 2 0, aI 3] (aA 0 [aJ 7 0, .o (.len 8 true (.t 7)), aL 9 .gtr 8 0, aJ 10 9, aV 10 11 0, .g 10 true (.ix 12 (.t 11) (.k cO)), .g 10 true (.bin 13 .eql (.t 12) (.k (.v (.int .u8 45)))), bA 14 10 13, aJ 4 14] (.sq (aA 0 [aJ 15 4] (aB 15 (.rg 0 false [aJ 16 0, .o (.sl 17 none (.t 16) (some (cN 1)) none none), aJ 0 17]) .sk)) (.sq (aA 0 [aJ 18 0, .o (.len 19 true (.t 18)), aL 20 .eql 19 0, aJ 21 20, bG 21 22 0, .g 21 false (.len 23 true (.t 22)), bI 21 24 .gtr 23 17, bJ 25 21 24, aJ 26 25, bG 26 27 0, .g 26 false (.ix 28 (.t 27) (.k cO)), .g 26 false (.bin 29 .eql (.t 28) (.k (.v (.int .u8 48)))), bG 26 30 29, aV 30 31 0, .g 30 true (.len 32 true (.t 31)), bY 30 33 .gtr 32 1, aV 30 34 33, bG 34 35 4, bZ 30 36 34 35, cI 26 37 30 36, bJ 38 26 37] (aB 38 (aA 0 [bF 2 0, aI 3] .rt) .sk)) (aA 0 [bF 5 0] (.sq (aA 0 [bF 6 0] (.bl 0 (.lp [0, 4, 5, 6] Z2j))) (.sq (aA 0 [aJ 63 4] (aB 63 (.rg 0 false [aJ 64 5, .o (.un 65 .neg (.t 64)), aJ 5 65]) .sk)) (aA 0 [aJ 66 5, aJ 2 66, aM 3] .rt))))))))⟩
def Z2g : ACode := (.sq (aA 0 [aJ 12 0, aL 13 .gtr 12 9] (aB 13 .sk (.xt 0))) (.bl 1 (aA 1 [aJ 14 0, aL 15 .rem 14 10, .o (.bin 16 .add (cN 48) (.t 15)), .o (.cv 17 .u8 (.t 16)), aR 18 0 W5 1 17, .o (.cbs 19 W5 (.t 18)), aJ 20 3, bB 21 .add 19 20, aJ 3 21] (.rg 0 false [aJ 22 0, aL 23 .quo 22 10, aJ 0 23]))))
def Z5o : ACode := Z2g
theorem Z94 : aG Z5o Z2g := fun _ _ => rfl
def Z4x : AFn := ⟨1, [.t 2], (aA 0 [.o (.mv 2 (.k cP))] (.sq (aA 0 [aJ 4 0, aL 5 .lss 4 (-9223372036854775807)] (aB 5 (aA 0 [.o (.mv 2 (.k (.v (.string ⟨#[45, 57, 50, 50, 51, 51, 55, 50, 48, 51, 54, 56, 53, 52, 55, 55, 53, 56, 48, 56]⟩))))] .rt) .sk)) (.sq (aA 0 [aJ 6 0, aL 7 .lss 6 0] (aB 7 (aA 0 [aJ 8 0, .o (.un 9 .neg (.t 8)), aN 10 0 0 Z0w 9, .o (.bin 11 .add (.k (.v (.string ⟨#[45]⟩))) (.t 10)), aJ 2 11] .rt) .sk)) (aA 0 [.o (.mv 3 (.k cP))] (.sq (.bl 0 (.lp [0, 3] Z5o)) (aA 1 [aJ 24 0, .o (.bin 25 .add (cN 48) (.t 24)), .o (.cv 26 .u8 (.t 25)), aR 27 0 W5 1 26, .o (.cbs 28 W5 (.t 27)), aJ 29 3, bB 30 .add 28 29, aJ 2 30] .rt))))))⟩
def Z0x : ACode := (.sq (aA 0 [aJ 16 4, bT 17 1 2, bD 18 1 17, aK 19 18, bB 20 .lss 16 19] (aB 20 .sk (.xt 0))) (.sq (.bl 1 (.rgs 5 [((.t 23), (.t 37)), ((.t 25), (.t 37)), ((.t 29), (.t 37)), ((.t 31), (.t 37)), ((.t 35), (.t 37))] [bT 23 3 2, bD 24 1 23, bT 25 1 2, bD 26 1 25, aJ 27 4, bC 28 Z4 26 27, bT 29 28 0, bD 30 1 29, bT 31 1 2, bD 32 1 31, aJ 33 4, bC 34 Z4 32 33, bT 35 34 1, bD 36 1 35, bO 37 0 Z2 3, bT 38 1 2, bD 39 1 38, aJ 40 4, bC 41 Z4 39 40, bT 42 41 2, bD 43 1 42, bE 44 1 Z2 37 43, .o (.bld 45 2 [cO, cO, (.lit Z2 [])] [(0, 1, (.t 30)), (1, 1, (.t 36)), (2, 1, (.t 44))]), .o (.bsb 46 3 Z4 3 [(.t 45)]), .o (.apb 47 4 Z4 (.t 24) (.t 46)), bT 48 3 2, aP 1 48 47])) (.rg 0 false [aJ 21 4, aL 22 .add 21 1, aJ 4 22])))
def Wr : ACode := Z0x
theorem Z70 : aG Wr Z0x := fun _ _ => rfl
def Vu : AFn := ⟨1, [.cell 2 4 true], (aA 5 [cD 1 0 Z1 4 0, .o (.al 2 1 Z1 [(.lit Z0 []), (.lit Z3 []), (.lit Z4 []), cO])] (.sq (.rgs 11 [((.t 10), (.t 5)), ((.t 13), (.t 5)), ((.t 13), (.t 9))] [bO 5 0 Z0 7, bT 6 1 0, bD 7 1 6, bE 8 1 Z0 5 7, bO 9 2 Z3 10, bT 10 1 1, bD 11 1 10, bE 12 3 Z3 9 11, bT 13 1 3, bD 14 1 13, .o (.bld 15 4 [(.lit Z0 []), (.lit Z3 []), (.lit Z4 []), cO] [(0, 1, (.t 8)), (1, 1, (.t 12)), (3, 1, (.t 14))]), .o (.al 3 7 Z1 [(.lit Z0 []), (.lit Z3 []), (.lit Z4 []), cO]), aP 4 3 15]) (.sq (aA 0 [bF 4 0] (.bl 0 (.lp [1, 2, 3, 4] Wr))) (aA 0 [aQ 49 4 3, aP 4 2 49] .rt))))⟩
def X5 : AFn := ⟨3, [.cell 6 4 true, .t 7], (aA 5 [cD 3 0 Z1 4 0, .o (.al 6 1 Z1 [(.lit Z0 []), (.lit Z3 []), (.lit Z4 []), cO]), bF 7 0] (aA 0 [aQ 13 4 3, aJ 14 1, .o (.callx (some 15) 0 0 Z5j [(.t 13), (.t 14)]), aJ 8 15] (.sq (aA 0 [aJ 16 8, aL 17 .lss 16 0] (aB 17 (aA 0 [aQ 18 4 3, aP 4 6 18, bF 7 5] .rt) .sk)) (.sq (.rg 3 true [aQ 20 4 3, .o (.callx (some 21) 0 1 Ys [(.t 20)]), aQ 22 4 3, bT 23 3 2, bD 24 1 23, aJ 25 8, bC 26 Z4 24 25, aQ 27 3 26, .o (.callx (some 28) 1 1 X2 [(.t 22), (.t 27)]), aJ 29 2, aU 30 2 1 Z1z 21 28 29, aJ 19 30, aO 31 19 0, aO 32 19 1, aJ 9 31, aJ 10 32]) (.sq (aA 0 [aJ 33 10, aT 34 33] (aB 34 (aA 0 [aQ 35 4 3, aP 4 6 35, bF 7 1] .rt) .sk)) (aA 3 [aJ 36 1, bT 37 3 1, bD 38 1 37, aK 39 38, aJ 40 9, .o (.bld 41 0 [cO, cO, (.lit Z2 [])] [(0, 1, (.t 36)), (1, 1, (.t 39)), (2, 1, (.t 40))]), .o (.al 11 1 Z4 [cO, cO, (.lit Z2 [])]), aP 3 11 41] (aA 0 [aQ 42 4 3, aQ 43 3 11, .o (.callx (some 44) 0 0 Z25 [(.t 42), (.t 43)]), aJ 12 44] (.sq (aA 0 [aJ 45 12, aL 46 .eql 45 0] (aB 46 (.rg 0 false [bT 47 3 2, bD 48 1 47, aJ 49 8, aQ 50 3 11, bC 51 Z4 48 49, aP 3 51 50]) .sk)) (aA 0 [aQ 52 4 3, aJ 53 12, aP 4 6 52, aJ 7 53] .rt)))))))))⟩
def Xo : AFn := ⟨2, [.cell 4 4 true], (aA 5 [cD 3 0 Z1 4 1, .o (.al 4 1 Z1 [(.lit Z0 []), (.lit Z3 []), (.lit Z4 []), cO])] (aA 1 [aQ 7 4 3, .o (.callx (some 8) 0 1 Ys [(.t 7)]), aJ 5 8] (aA 0 [aJ 9 0, bT 10 3 3, bD 11 1 10, .o (.call (some 12) 0 0 Z66 [(cN 1), (.t 11)]), cC 13 Z0f 9 12, aL 14 .add 13 1, aJ 6 14] (.sq (aA 0 [aJ 15 0, cG 16 Z0f 15 8] (.bl 0 (aA 0 [aL 26 .eql 16 0, aJ 25 26] (aB 25 (.rg 0 false [aQ 28 4 3, aJ 29 6, cC 30 Z61 28 29, aJ 27 30, aO 31 27 0, aO 32 27 1, aP 4 3 31]) (.sq (aA 0 [aL 34 .eql 16 1, aJ 33 34] (aB 33 .sk (.rg 0 false [aL 35 .eql 16 2, aJ 33 35]))) (aB 33 (.rgk 0 [((.t 3), (.k .bad))] [3] [aQ 37 4 3, aJ 38 6, aJ 39 0, aJ 40 5, cC 41 Z1y 39 40, .o (.dcf (some 42) Z3j [(.t 37), (.t 38), (.t 41)]), aJ 36 42, aO 43 36 0, aO 44 36 1, aP 4 3 43]) (aA 0 [aL 46 .eql 16 3, aJ 45 46] (aB 45 (.rgk 0 [((.t 3), (.k .bad))] [3] [aQ 48 4 3, aJ 49 0, aJ 50 5, cC 51 Y3o 49 50, cC 52 Y3l 48 51, aJ 47 52, aO 53 47 0, aO 54 47 1, aP 4 3 53]) (.rgk 0 [((.t 3), (.k .bad))] [3] [aQ 18 4 3, aJ 19 0, aJ 20 5, cC 21 Z1y 19 20, cC 22 Z63 18 21, aJ 17 22, aO 23 17 0, aO 24 17 1, aP 4 3 23]))))))))) (aA 0 [aQ 55 4 3, aP 4 4 55] .rt)))))⟩
def fns : List (Nat × AFn) := [(Ycf, Yb7), (Ycq, Y3d), (Ycp, Y5h), (Ych, Zxz), (Yw, Z0v), (Xw, Z79), (V9, Z28), (Y97, Ycg), (V6, Z7n), (Ybg, Ycl), (Zv7, Zme), (Vf, Xx), (Y1e, Zyn), (Z39, Z1b), (Xe, Z7f), (Ys, Z77), (Z1d, Z32), (Z0y, Z2b), (Z24, Z7e), (Z0f, Ztw), (X2, Z8j), (Zah, Y75), (Wk, Z6l), (Wi, Z7r), (Vg, Wn), (Zo3, Y6n), (Zwp, Y71), (Zwu, Y8i), (Zxp, Ztl), (Zfz, Y7v), (Zwo, Y6l), (Z1e, Vi), (Y1d, Y1x), (Vc, Z37), (Z68, Z0r), (Wj, Z33), (Wb, Z8b), (Zan, Y11), (Z4j, Yx), (Zts, Zwl), (Y17, Y2k), (Z1g, Z35), (Z5u, Z8m), (Y0s, Y6t), (Z1y, Z11), (Z63, Yu), (Z19, Z6c), (Yl, Z6f), (Z5j, Z7h), (Z4b, Zr), (Z3a, Vh), (Y2q, Y3j), (Z4i, Z7k), (V7, Z0z), (Xk, Z2f), (Y2x, Y2o), (V5, Zfo), (Wq, Z3c), (Xp, Z3g), (Y3q, Y26), (V8, Z95), (Y0j, Y6h), (Z4m, Vb), (Z18, Z6a), (Z67, Z97), (Y28, Y30), (Vd, Z69), (Xu, Z3e), (Z0c, Z38), (Y9, Z1t), (Y10, Y2r), (Zr9, Y6r), (Z1z, Z4o), (Z4f, Z73), (Z25, Z2h), (Z00, Zx), (Y3y, Y7s), (Z3d, Z6k), (Z5z, Z1r), (Ze5, Y65), (Xb, Yf), (Zz6, Y5r), (Zu2, Y6u), (Y0w, Zuf), (Wl, Z9g), (Z4w, Z4c), (Z5v, Z98), (Yj, X0), (Z3m, Z5x), (Z66, Z5w), (Z61, Z0s), (Y3l, Zcp), (Y3o, Z4q), (Z1u, W6), (Zwc, Zwm), (Zhs, Ze9), (Zrj, Zy5), (Z1q, Vx), (Zz5, Zx8), (Zrz, Zy8), (Z1p, Z8y), (Z4e, Z7m), (Z4p, Z4n), (Z13, Z4r), (Z3p, Z8n), (Z12, Zbf), (Z0w, Z4x)]
def Zpv : List (Nat × AFn) := [(Vz, Vu)]
def Zvb : List (Nat × AFn) := [(Z3j, X5), (Z3r, Xo)]
def Y4c : List Nat := [Zq9]
def Y5b : List (Nat × (List A -> Option (List A))) := [(Zh7, Zcv Z0), (Zhu, Zcv Z2), (Ve, Zuy), (Z1f, Znx)]
def Zak {J : Type} (f : Nat) : List (Nat × J) -> Option J
 | [] => none
 | x :: xs => if f = x.1 then some x.2 else Zak f xs
def Y92 : List (Nat × Nat) := []
def Y8h : List Nat := [Ye6, Zng, Yv]
class Pr0 where
 pg : Prog
 fn : ∀ f, pg.fn f = Zak f fns
 ext : ∀ f, f ∉ Y8h -> pg.ext f = Zak f Y5b
 ins : ∀ f, pg.ins f = Zak f Y92
 dn : ∀ f, pg.dn f = Zak f Zpv
 hx : ∀ f, f ∉ Y4c -> pg.hx f = none
 fl : ∀ f, pg.fl f = Zak f Zvb
abbrev pr [Pr0] : Prog := Pr0.pg
variable [Pr0]
theorem Z4k {f : Nat} {a : AFn} (h : Zak f Zpv = none) (k : Zak f fns = some a) : pr.dfn f = some a := by unfold Prog.dfn; rw [Pr0.dn f, h]; exact (Pr0.fn f).trans k
theorem Ydh {f : Nat} {a : AFn} (h : Zak f Zpv = some a) : pr.dfn f = some a := by unfold Prog.dfn; rw [Pr0.dn f, h]
abbrev cR (t : Nat) (r : List (List A)) : Option Blk := some ⟨t, r, true, true⟩
abbrev cS (t : Nat) (r : List (List A)) : Option Blk := some ⟨t, r, true, false⟩
abbrev cT (t b n : Nat) (e : Bool) : A := .ref t b 0 n n e
attribute [go_sem] cR cS cT
noncomputable abbrev aH (D : Nat) : Env := ⟨den pr D, dcl pr D, dfl pr D⟩
attribute [go_sem] aH
abbrev aC (f : Nat) (c : AFn) : Prop := ∀ (D : Nat) (as : List A), den pr (D + 1) f as = Zc0 (Zg ⟨den pr D, dcl pr D, dfl pr D⟩ c.code ⟨slots as, fun _ => none, 0, 0⟩) (res c.res)
theorem aD {f : Nat} {c : AFn} (h : f ∉ Y8h) (h1 : Zak f Y5b = none) (h2 : Zak f fns = some c) : aC f c := fun D as => Yc6 ((Pr0.ext f h).trans h1) ((Pr0.fn f).trans h2)
abbrev aE (f : Nat) (c : AFn) : Prop := ∀ (D : Nat) (as : List A) (h : Hp) (n : Nat), dcl pr (D + 1) f as h n = Zc0 (Zg ⟨den pr D, dcl pr D, dfl pr D⟩ c.code ⟨slots as, h, n, n⟩) (Zq7 c.res)
theorem aF {f : Nat} {c : AFn} (h : Zak f Y92 = none) (h1 : f ∉ Y4c) (h2 : pr.dfn f = some c) : aE f c := fun D as h' n => Ybi ((Pr0.ins f).trans h) (Pr0.hx f h1) h2
theorem Yfm : aC Ycf Yb7 := aD (by decide) rfl rfl
theorem Ygm : aC Ycq Y3d := aD (by decide) rfl rfl
theorem Yft : aC Ycp Y5h := aD (by decide) rfl rfl
theorem Yfz : aC Ych Zxz := aD (by decide) rfl rfl
theorem Zk9 : aC Yw Z0v := aD (by decide) rfl rfl
theorem Zjn : aC Xw Z79 := aD (by decide) rfl rfl
theorem Zl2 : aC V9 Z28 := aD (by decide) rfl rfl
theorem Yg1 : aC Y97 Ycg := aD (by decide) rfl rfl
theorem Zjz : aC V6 Z7n := aD (by decide) rfl rfl
theorem Ygb : aC Ybg Ycl := aD (by decide) rfl rfl
theorem Yes : aC Zv7 Zme := aD (by decide) rfl rfl
theorem Zgl : aC Vf Xx := aD (by decide) rfl rfl
theorem Ydx : aC Y1e Zyn := aD (by decide) rfl rfl
theorem Zgj : aC Z39 Z1b := aD (by decide) rfl rfl
theorem Zqw : aC Xe Z7f := aD (by decide) rfl rfl
theorem Zkd : aC Ys Z77 := aD (by decide) rfl rfl
theorem Zg3 : aE Z1d Z32 := aF rfl (by decide) (Z4k rfl rfl)
theorem Zjx : aE Z0y Z2b := aF rfl (by decide) (Z4k rfl rfl)
theorem Zjh : aC Z24 Z7e := aD (by decide) rfl rfl
theorem Y3b : aE Z0f Ztw := aF rfl (by decide) (Z4k rfl rfl)
theorem Zod : aC X2 Z8j := aD (by decide) rfl rfl
theorem Ydz : aE Zah Y75 := aF rfl (by decide) (Z4k rfl rfl)
theorem Zgk : aC Wk Z6l := aD (by decide) rfl rfl
theorem Zij : aE Wi Z7r := aF rfl (by decide) (Z4k rfl rfl)
theorem Zgm : aC Vg Wn := aD (by decide) rfl rfl
theorem Yec : aC Zo3 Y6n := aD (by decide) rfl rfl
theorem Yea : aC Zwp Y71 := aD (by decide) rfl rfl
theorem Ydu : aC Zwu Y8i := aD (by decide) rfl rfl
theorem Yew : aC Zxp Ztl := aD (by decide) rfl rfl
theorem Yeu : aC Zfz Y7v := aD (by decide) rfl rfl
theorem Ydb : aC Zwo Y6l := aD (by decide) rfl rfl
theorem Zfw : aC Z1e Vi := aD (by decide) rfl rfl
theorem Yas : aE Y1d Y1x := aF rfl (by decide) (Z4k rfl rfl)
theorem Zg4 : aC Vc Z37 := aD (by decide) rfl rfl
theorem Znc : aC Z68 Z0r := aD (by decide) rfl rfl
theorem Zga : aC Wj Z33 := aD (by decide) rfl rfl
theorem Zlk : aC Wb Z8b := aD (by decide) rfl rfl
theorem Yb6 : aE Zan Y11 := aF rfl (by decide) (Z4k rfl rfl)
theorem Zkv : aE Z4j Yx := aF rfl (by decide) (Z4k rfl rfl)
theorem Ycv : aC Zts Zwl := aD (by decide) rfl rfl
theorem Yd2 : aC Y17 Y2k := aD (by decide) rfl rfl
theorem Zfx : aC Z1g Z35 := aD (by decide) rfl rfl
theorem Znf : aC Z5u Z8m := aD (by decide) rfl rfl
theorem Yel : aC Y0s Y6t := aD (by decide) rfl rfl
theorem Zjk : aE Z1y Z11 := aF rfl (by decide) (Z4k rfl rfl)
theorem Zmg : aE Z63 Yu := aF rfl (by decide) (Z4k rfl rfl)
theorem Zg6 : aC Z19 Z6c := aD (by decide) rfl rfl
theorem Zgi : aC Yl Z6f := aD (by decide) rfl rfl
theorem Zqd : aC Z5j Z7h := aD (by decide) rfl rfl
theorem Zi5 : aE Z4b Zr := aF rfl (by decide) (Z4k rfl rfl)
theorem Zg7 : aE Z3a Vh := aF rfl (by decide) (Z4k rfl rfl)
theorem Yf5 : aC Y2q Y3j := aD (by decide) rfl rfl
theorem Zi1 : aC Z4i Z7k := aD (by decide) rfl rfl
theorem Z4a : aE V7 Z0z := aF rfl (by decide) (Z4k rfl rfl)
theorem Z7s : aE Xk Z2f := aF rfl (by decide) (Z4k rfl rfl)
theorem Yed : aC Y2x Y2o := aD (by decide) rfl rfl
theorem Zye : aC V5 Zfo := aD (by decide) rfl rfl
theorem Zgf : aC Wq Z3c := aD (by decide) rfl rfl
theorem Zoi : aC Xp Z3g := aD (by decide) rfl rfl
theorem Yf0 : aC Y3q Y26 := aD (by decide) rfl rfl
theorem Zms : aC V8 Z95 := aD (by decide) rfl rfl
theorem Ye4 : aC Y0j Y6h := aD (by decide) rfl rfl
theorem Zl1 : aC Z4m Vb := aD (by decide) rfl rfl
theorem Zgh : aC Z18 Z6a := aD (by decide) rfl rfl
theorem Zo9 : aC Z67 Z97 := aD (by decide) rfl rfl
theorem Ye8 : aC Y28 Y30 := aD (by decide) rfl rfl
theorem Zfy : aC Vd Z69 := aD (by decide) rfl rfl
theorem Zg1 : aC Xu Z3e := aD (by decide) rfl rfl
theorem Zg0 : aC Z0c Z38 := aD (by decide) rfl rfl
theorem Zln : aC Y9 Z1t := aD (by decide) rfl rfl
theorem Yf6 : aC Y10 Y2r := aD (by decide) rfl rfl
theorem Ydk : aC Zr9 Y6r := aD (by decide) rfl rfl
theorem Zio : aC Z1z Z4o := aD (by decide) rfl rfl
theorem Zkr : aC Z4f Z73 := aD (by decide) rfl rfl
theorem Zid : aC Z25 Z2h := aD (by decide) rfl rfl
theorem Zi8 : aE Z00 Zx := aF rfl (by decide) (Z4k rfl rfl)
theorem Ydt : aC Y3y Y7s := aD (by decide) rfl rfl
theorem Zg5 : aE Z3d Z6k := aF rfl (by decide) (Z4k rfl rfl)
theorem Zmi : aC Z5z Z1r := aD (by decide) rfl rfl
theorem Ydl : aC Ze5 Y65 := aD (by decide) rfl rfl
theorem Z04 : aC Xb Yf := aD (by decide) rfl rfl
theorem Yf4 : aC Zz6 Y5r := aD (by decide) rfl rfl
theorem Yez : aC Zu2 Y6u := aD (by decide) rfl rfl
theorem Yd6 : aC Y0w Zuf := aD (by decide) rfl rfl
theorem Znu : aC Wl Z9g := aD (by decide) rfl rfl
theorem Zjv : aC Z4w Z4c := aD (by decide) rfl rfl
theorem Znw : aC Z5v Z98 := aD (by decide) rfl rfl
theorem Xl : aC Yj X0 := aD (by decide) rfl rfl
theorem Zd0 : aE Z3m Z5x := aF rfl (by decide) (Z4k rfl rfl)
theorem Zo1 : aC Z66 Z5w := aD (by decide) rfl rfl
theorem Zp6 : aE Z61 Z0s := aF rfl (by decide) (Z4k rfl rfl)
theorem Ydw : aE Y3l Zcp := aF rfl (by decide) (Z4k rfl rfl)
theorem Ydc : aE Y3o Z4q := aF rfl (by decide) (Z4k rfl rfl)
theorem Zmh : aC Z1u W6 := aD (by decide) rfl rfl
theorem Yat : aE Zwc Zwm := aF rfl (by decide) (Z4k rfl rfl)
theorem Yax : aC Zhs Ze9 := aD (by decide) rfl rfl
theorem Y9d : aE Zrj Zy5 := aF rfl (by decide) (Z4k rfl rfl)
theorem Zlt : aC Z1q Vx := aD (by decide) rfl rfl
theorem Ybs : aE Zz5 Zx8 := aF rfl (by decide) (Z4k rfl rfl)
theorem Y9a : aE Zrz Zy8 := aF rfl (by decide) (Z4k rfl rfl)
theorem Zm8 : aC Z1p Z8y := aD (by decide) rfl rfl
theorem Zkf : aC Z4e Z7m := aD (by decide) rfl rfl
theorem Zkl : aC Z4p Z4n := aD (by decide) rfl rfl
theorem Zks : aC Z13 Z4r := aD (by decide) rfl rfl
theorem Zmv : aC Z3p Z8n := aD (by decide) rfl rfl
theorem Zik : aC Z12 Zbf := aD (by decide) rfl rfl
theorem Zb4 : aC Z0w Z4x := aD (by decide) rfl rfl
theorem Zkq : aE Vz Vu := aF rfl (by decide) (Ydh rfl)
theorem Zlr (D : Nat) (as : List A) (h : Hp) (n : Nat) : dfl pr (D + 1) Z3j as h n = Zc0 (Zg ⟨den pr D, dcl pr D, dfl pr D⟩ X5.code ⟨slots as, h, n, 0⟩) (Zq7 X5.res) := Y53 ((Pr0.fl Z3j).trans rfl)
theorem Zof (D : Nat) (as : List A) (h : Hp) (n : Nat) : dfl pr (D + 1) Z3r as h n = Zc0 (Zg ⟨den pr D, dcl pr D, dfl pr D⟩ Xo.code ⟨slots as, h, n, 0⟩) (Zq7 Xo.res) := Y53 ((Pr0.fl Z3r).trans rfl)
theorem Ybb (D : Nat) (as : List A) : den pr (D + 1) Zh7 as = Zcv Z0 as := Zck ((Pr0.ext Zh7 (by decide)).trans rfl)
theorem Yay (D : Nat) (as : List A) : den pr (D + 1) Zhu as = Zcv Z2 as := Zck ((Pr0.ext Zhu (by decide)).trans rfl)
theorem Za7 (D : Nat) (as : List A) : den pr (D + 1) Ve as = Zuy as := Zck ((Pr0.ext Ve (by decide)).trans rfl)
theorem Zgb (D : Nat) (as : List A) : den pr (D + 1) Z1f as = Znx as := Zck ((Pr0.ext Z1f (by decide)).trans rfl)
end Go.Vm.T
end
