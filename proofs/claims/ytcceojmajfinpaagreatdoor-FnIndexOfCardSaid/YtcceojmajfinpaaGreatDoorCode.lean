/-
  The program's functions, lowered to the abstract machine by a program of this work
-/
import Derived.Test.YtcceojmajfinpaaGreatDoorVmD
section
set_option linter.unusedVariables false
set_option linter.unusedSimpArgs false
set_option linter.unusedSectionVars false
namespace Go.Vm.T
def Yan : Nat := 13
def Z4c : Nat := 24
def Y91 : Nat := 26
def Yao : Nat := 28
def Z0u : Nat := 30
def Yam : Nat := 34
def Z32 : Nat := 36
def Z2v : Nat := 56
def Yal : Nat := 57
def Z2p : Nat := 62
def Zym : Nat := 66
def V7 : Nat := 67
def Zzh : Nat := 68
def Y1s : Nat := 69
def Ycc : Nat := 71
def X9 : Nat := 75
def Yl : Nat := 76
def Z2z : Nat := 86
def Z1q : Nat := 87
def Z4a : Nat := 88
def Z19 : Nat := 89
def Xa : Nat := 90
def Zai : Nat := 91
def Z02 : Nat := 92
def Vs : Nat := 93
def V5 : Nat := 94
def Zmf : Nat := 95
def Zfy : Nat := 99
def Zzz : Nat := 102
def W7 : Nat := 105
def Xu : Nat := 106
def Zcb : Nat := 107
def Zse : Nat := 109
def Zzf : Nat := 110
def Z0y : Nat := 111
def Z5i : Nat := 112
def Z4f : Nat := 114
def Y1k : Nat := 115
def Z1l : Nat := 126
def Z5u : Nat := 128
def Vp : Nat := 129
def Zza : Nat := 130
def Zrl : Nat := 131
def Z60 : Nat := 132
def Zyt : Nat := 133
def Zyp : Nat := 134
def Z39 : Nat := 136
def Z5t : Nat := 139
def Zup : Nat := 141
def Z5x : Nat := 142
def Ztj : Nat := 143
def Z2u : Nat := 148
def Yg : Nat := 153
def Z57 : Nat := 154
def Z43 : Nat := 162
def Z2w : Nat := 163
def Zyx : Nat := 164
def Z4d : Nat := 165
def Ww : Nat := 166
def Xo : Nat := 167
def Y25 : Nat := 168
def Wt : Nat := 169
def Wc : Nat := 170
def Xg : Nat := 171
def Zly : Nat := 172
def Wx : Nat := 174
def Zz4 : Nat := 175
def Z2o : Nat := 177
def Z62 : Nat := 178
def Y0f : Nat := 179
def V0 : Nat := 180
def W8 : Nat := 181
def Z03 : Nat := 182
def Zw : Nat := 183
def Zz2 : Nat := 184
def Zp5 : Nat := 185
def Zob : Nat := 190
def Z1m : Nat := 192
def Z48 : Nat := 193
def Z1t : Nat := 194
def Y3j : Nat := 197
def Z46 : Nat := 198
def Vq : Nat := 206
def Y1p : Nat := 207
def Z31 : Nat := 208
def Z3h : Nat := 209
def Z5p : Nat := 210
def Zf4 : Nat := 211
def X8 : Nat := 212
def Zts : Nat := 213
def Zsl : Nat := 214
def Zzy : Nat := 215
def Wy : Nat := 216
def Z4p : Nat := 217
def Z5j : Nat := 218
def Yc : Nat := 219
def Z3c : Nat := 234
def Z5z : Nat := 235
def Z5r : Nat := 236
def Zz8 : Nat := 237
def Zqa : Nat := 238
def Z1i : Nat := 239
def Zwt : Nat := 240
def Zgd : Nat := 241
def Zhe : Nat := 242
def Zr9 : Nat := 243
def Z1e : Nat := 244
def Zu0 : Nat := 245
def Zhb : Nat := 246
def Zqn : Nat := 247
def Z1d : Nat := 248
def Z47 : Nat := 249
def Z4j : Nat := 250
def Z0k : Nat := 251
def Z3f : Nat := 252
def Z0j : Nat := 261
def Z0e : Nat := 262
def V2 : Nat := 263
def Ys : Nat := 264
def Z0x : Nat := 267
def Wd : Nat := 3
def Y2z : Nat := 4
def Vf : Nat := 5
def Wu : Nat := 9
def Z1 : Nat := 35
def Zm9 : Nat := 41
def Z2 : Nat := 43
def Zas : Nat := 48
def Zm : Nat := 63
def Z0 : Nat := 69
def Z4 : Nat := 71
def Z5 : Nat := 97
def Z3 : Nat := 189
def Za2 : Nat := 197
def Zh : Nat := 213
end Go.Vm.T
set_option maxRecDepth 100000
namespace Go.Vm.T
abbrev cQ : A := .v (.int .i64 0)
abbrev cR : A := .v (.string ⟨#[]⟩)
abbrev cS : A := .v (.bool false)
abbrev cP (n : Int) : Opd := .k (.v (.int .i64 n))
abbrev aA (n : Nat) (o : List G) (c : ACode) : ACode := .sq (.rg n false o) c
abbrev aB (c : Nat) (a b : ACode) : ACode := .ite (.t c) a b
abbrev aI (d s : Nat) : G := .o (.mv d (.t s))
abbrev aJ (d x : Nat) : G := .o (.len d false (.t x))
abbrev aK (d : Nat) (o : BinOp) (x y : Nat) : G := .o (.bin d o (.t x) (.t y))
abbrev aL (d n p : Nat) : G := .o (.ld d n true (.t p))
abbrev aM (d e x i : Nat) : G := .o (.ia d e (.t x) (.t i))
abbrev aN (d x o : Nat) : G := .o (.fa d (.t x) o)
abbrev aO (d n p : Nat) : G := .o (.ld d n false (.t p))
abbrev aP (d k w f a b : Nat) : G := .o (.call (some d) k w f [.t a, .t b])
abbrev aQ (d x i : Nat) : G := .o (.ex d (.t x) i)
abbrev aR (d x : Nat) : G := .o (.un d .not (.t x))
abbrev aS (s' : Nat) (d s : Nat) : G := .g s' false (.mv d (.t s))
abbrev aT (s' : Nat) (d e x i : Nat) : G := .g s' false (.ia d e (.t x) (.t i))
abbrev aU (s' : Nat) (d n p : Nat) : G := .g s' false (.ld d n true (.t p))
abbrev aV (s' : Nat) (d x o : Nat) : G := .g s' false (.fa d (.t x) o)
abbrev aW (s' : Nat) (d : Nat) (l : List Nat) (a b : Nat) : G := .g s' false (.eqs d l true (.t a) (.t b))
abbrev aX (d c a : Nat) : G := .o (.pick d (.t c) (.k (.v (.bool true))) (.t a))
abbrev aY (s' : Nat) (d k w f a b : Nat) : G := .g s' false (.call (some d) k w f [.t a, .t b])
abbrev aZ (s' : Nat) (d k w f a b c : Nat) : G := .g s' false (.call (some d) k w f [.t a, .t b, .t c])
abbrev bA (s' : Nat) (d x : Nat) : G := .g s' false (.un d .not (.t x))
abbrev bB (d : Nat) : G := .o (.mv d (.k (.v (.bool false))))
abbrev bC (d : Nat) (o : BinOp) (x : Nat) (n : Int) : G := .o (.bin d o (.t x) (.k (.v (.int .i64 n))))
abbrev bD (d : Nat) : G := .o (.mv d (.k (.v (.bool true))))
abbrev bE (d k w f a : Nat) : G := .o (.call (some d) k w f [.t a])
abbrev bF (n p x : Nat) : G := .o (.st n (.t p) (.t x))
abbrev bG (s' : Nat) (d k w f a : Nat) : G := .g s' false (.call (some d) k w f [.t a])
abbrev bH (d : Nat) (n : Int) : G := .o (.mv d (.k (.v (.int .i64 n))))
abbrev bI (s' : Nat) (d n p : Nat) : G := .g s' true (.ld d n true (.t p))
abbrev bJ (s' : Nat) (d k w f a : Nat) : G := .g s' true (.call (some d) k w f [.t a])
abbrev bK (s' : Nat) (d s : Nat) : G := .g s' true (.mv d (.t s))
abbrev bL (s' : Nat) (d e x i : Nat) : G := .g s' true (.ia d e (.t x) (.t i))
abbrev bM (s' : Nat) (d x o : Nat) : G := .g s' true (.fa d (.t x) o)
abbrev bN (s' : Nat) (d n p : Nat) : G := .g s' true (.ld d n false (.t p))
abbrev bO (s' : Nat) (d x : Nat) : G := .g s' true (.un d .not (.t x))
abbrev bP (s' : Nat) (d c a : Nat) : G := .g s' true (.pick d (.t c) (.k (.v (.bool true))) (.t a))
abbrev bQ (d c a : Nat) : G := .o (.pick d (.t c) (.t a) (.k (.v (.bool false))))
abbrev bR (d k t n a : Nat) : G := .o (.box d k t n (.t a))
abbrev bS (d k t : Nat) : G := .o (.mvn d k t)
abbrev bT (s' : Nat) (d k w f a b : Nat) : G := .g s' true (.call (some d) k w f [.t a, .t b])
abbrev bU (s' : Nat) (d : Nat) (l : List Nat) (a b : Nat) : G := .g s' true (.eqs d l false (.t a) (.t b))
abbrev bV (d k t n a : Nat) : G := .o (.bsl d k t n [.t a])
abbrev bW (d k t a b : Nat) : G := .o (.app d k t (.t a) (.t b))
abbrev bX (d f a : Nat) : G := .o (.dcall (some d) f [.t a])
abbrev bY (s' : Nat) (d n p : Nat) : G := .g s' false (.ld d n false (.t p))
abbrev bZ (s' : Nat) (d x : Nat) : G := .g s' false (.len d false (.t x))
abbrev cA (s' : Nat) (d : Nat) (o : BinOp) (x : Nat) (n : Int) : G := .g s' false (.bin d o (.t x) (.k (.v (.int .i64 n))))
abbrev cB (d : Nat) (l : List Nat) (a b : Nat) : G := .o (.eqs d l true (.t a) (.t b))
abbrev cC (d k t n : Nat) : G := .o (.bsl d k t n [])
abbrev cD (d f a b : Nat) : G := .o (.dcall (some d) f [.t a, .t b])
abbrev cE (s' : Nat) (d : Nat) (o : BinOp) (x : Nat) (n : Int) : G := .g s' true (.bin d o (.t x) (.k (.v (.int .i64 n))))
abbrev cF (s' : Nat) (d c a : Nat) : G := .g s' false (.pick d (.t c) (.t a) (.k (.v (.bool false))))
abbrev cG (d k w f a b c : Nat) : G := .o (.call (some d) k w f [.t a, .t b, .t c])
abbrev cH (d f a : Nat) (n : Int) : G := .o (.dcall (some d) f [.t a, .k (.v (.int .i64 n))])
abbrev cI (s' : Nat) (d : Nat) (o : BinOp) (x y : Nat) : G := .g s' false (.bin d o (.t x) (.t y))
abbrev cJ (s' : Nat) (d : Nat) (o : BinOp) (x y : Nat) : G := .g s' true (.bin d o (.t x) (.t y))
abbrev cK (s' : Nat) (d f a : Nat) (n : Int) : G := .g s' true (.dcall (some d) f [.t a, .k (.v (.int .i64 n))])
abbrev cL (s' : Nat) (d f a : Nat) (n : Int) : G := .g s' false (.dcall (some d) f [.t a, .k (.v (.int .i64 n))])
abbrev cM (s' : Nat) (d x : Nat) : G := .g s' true (.len d false (.t x))
abbrev cN (s' : Nat) (d : Nat) (l : List Nat) (a b : Nat) : G := .g s' false (.eqs d l false (.t a) (.t b))
abbrev cO (d : Nat) (l : List Nat) (a b : Nat) : G := .o (.eqs d l false (.t a) (.t b))
attribute [go_sem] aA aB aI aJ aK aL aM aN aO aP aQ aR aS aT aU aV aW aX aY aZ bA bB bC bD bE bF bG bH bI bJ bK bL bM bN bO bP bQ bR bS bT bU bV bW bX bY bZ cA cB cC cD cE cF cG cH cI cJ cK cL cM cN cO cP cQ cR cS
abbrev aG (b c : ACode) : Prop := ∀ (E : Env) (U : St), Zj E b U = Zj E c U
def Zqk : ACode := (.sq (aA 0 [aI 41 7, aI 42 5, aJ 43 42, aK 44 .lss 41 43] (aB 44 .sk (.xt 0))) (.sq (.bl 1 (.sq (.rg 1 true [aL 48 4 3, aI 49 5, aI 50 7, aM 51 Z5 49 50, aN 52 51 3, aO 53 1 52, aP 54 0 1 Yam 48 53, aI 47 54, aQ 55 47 0, aQ 56 47 1, aI 8 55, aI 9 56]) (.sq (.rg 2 true [aI 57 9, aR 58 57, aI 59 58, aS 59 60 8, aS 59 61 6, aT 59 62 Z2 60 61, aU 59 63 3 62, aS 59 64 5, aS 59 65 7, aT 59 66 Z5 64 65, aV 59 67 66 0, aU 59 68 3 67, aW 59 69 [0, 0, 1] 63 68, aX 70 59 69, aI 71 70, aS 71 72 5, aS 71 73 5, aS 71 74 7, aT 71 75 Z5 73 74, aV 71 76 75 0, aU 71 77 3 76, aY 71 78 0 1 Zzh 72 77, aU 71 79 4 3, aS 71 80 4, aS 71 81 5, aS 71 82 7, aT 71 83 Z5 81 82, aV 71 84 83 0, aU 71 85 3 84, aZ 71 86 1 1 Yao 79 80 85, aY 71 87 2 0 Z4c 78 86, bA 71 88 87, aX 89 71 88]) (aB 89 (aA 0 [bB 2] .rt) .sk)))) (.rg 0 false [aI 45 7, bC 46 .add 45 1, aI 7 46])))
def Zvp : ACode := Zqk
theorem Y31 : aG Zvp Zqk := fun _ _ => rfl
def Y7c : AFn := ⟨1, [.t 2], (aA 0 [bB 2] (.sq (aA 0 [aI 10 0, aJ 11 10, bC 12 .gtr 11 1048576] (aB 12 (aA 0 [bD 2] .rt) .sk)) (aA 7 [aI 14 0, bE 15 0 3 Zym 14, aI 13 15, aQ 16 13 0, aQ 17 13 1, .o (.al 3 3 Z1 [(.lit Z0 []), (.lit Z3 []), (.lit Z4 []), cQ]), bF 4 3 16, aI 4 17] (aA 1 [aL 18 4 3, aI 19 4, aP 20 0 1 Z2v 18 19, aI 5 20] (.sq (aA 1 [aI 21 5, aL 22 4 3, aI 23 4, aP 24 0 1 Z2p 22 23, aP 25 1 0 Yal 21 24, aR 26 25, aI 27 26, aS 27 28 5, bG 27 29 1 0 V7 28, bA 27 30 29, aX 31 27 30] (aB 31 (aA 0 [bB 2] .rt) .sk)) (aA 1 [aL 32 4 3, bE 33 0 1 Y91 32, aI 34 4, aP 35 1 0 Z32 33 34, aI 6 35] (.sq (aA 0 [aI 36 6, bC 37 .lss 36 0] (aB 37 (aA 0 [aI 38 5, aJ 39 38, bC 40 .eql 39 0, aI 2 40] .rt) .sk)) (.sq (aA 0 [bH 7 0] (.bl 0 (.lp [3, 4, 5, 6, 7] Zvp))) (aA 1 [aI 90 5, aJ 91 90, aN 92 3 2, aO 93 1 92, aJ 94 93, aK 95 .eql 91 94, aI 96 95, bI 96 97 4 3, bJ 96 98 0 1 Y91 97, bK 96 99 6, bL 96 100 Z0 98 99, bM 96 101 100 3, bN 96 102 1 101, bO 96 103 102, bK 96 104 103, aS 104 105 5, bG 104 106 1 0 Y1s 105, bP 96 107 104 106, bQ 108 96 107, aI 2 108] .rt)))))))))⟩
def Z20 : ACode := (.sq (aA 0 [aI 11 5, aI 12 0, aJ 13 12, aK 14 .lss 11 13] (aB 14 .sk (.xt 0))) (.sq (.bl 1 (.sq (.rg 0 true [aI 17 0, aI 18 5, aM 19 Wd 17 18, aO 20 1 19, aI 21 1, aI 22 5, aM 23 Wd 21 22, aO 24 1 23, aK 25 .neq 20 24]) (aB 25 (aA 0 [bB 4] .rt) .sk))) (.rg 0 false [aI 15 5, bC 16 .add 15 1, aI 5 16])))
def Z4w : ACode := Z20
theorem Z8d : aG Z4w Z20 := fun _ _ => rfl
def Z7a : AFn := ⟨2, [.t 4], (aA 0 [bB 4] (.sq (aA 0 [aI 6 0, aJ 7 6, aI 8 1, aJ 9 8, aK 10 .neq 7 9] (aB 10 (aA 0 [bB 4] .rt) .sk)) (.sq (aA 0 [bH 5 0] (.bl 0 (.lp [0, 1, 5] Z4w))) (aA 0 [bD 4] .rt))))⟩
def Yak : AFn := ⟨1, [.t 2], (aA 2 [bR 1 0 Z1 4 0, bS 2 1 Z0] (.sq (aA 0 [aL 3 4 1, bE 4 0 0 V5 3, aR 5 4] (aB 5 (aA 1 [bS 2 0 Z0] .rt) .sk)) (aA 1 [aL 6 4 1, bE 7 0 1 Zmf 6, aI 2 7] .rt)))⟩
def Zhr : ACode := (aA 0 [aK 22 .lss 21 20] (.sq (aB 22 .sk (.xt 0)) (.sq (.bl 1 (aA 2 [aM 23 Z4 19 21, aL 24 3 23, .o (.al 10 0 Z4 [cQ, cQ, (.lit Z2 [])]), bF 3 10 24] (.sq (.rg 1 true [aI 25 7, bC 26 .geq 25 0, aI 27 26, bI 27 28 4 3, bI 27 29 3 10, bT 27 30 0 1 Zfy 28 29, bK 27 31 7, bL 27 32 Z2 30 31, bI 27 33 3 32, bI 27 34 3 5, bU 27 35 [0, 0, 1] 33 34, bQ 36 27 35]) (aB 36 (.rg 2 false [aI 37 8, aN 38 10 0, aO 39 1 38, bV 40 0 Wd 1 39, bW 41 1 Wd 37 40, aI 8 41]) .sk)))) (.rg 0 false [bC 42 .add 21 1, aI 21 42]))))
def Zxk : ACode := Zhr
theorem Zpw : aG Zxk Zhr := fun _ _ => rfl
def Yav : AFn := ⟨3, [.t 6], (aA 3 [bR 3 0 Z1 4 0, bR 5 1 Z2 3 2, bS 6 2 Wd] (.sq (aA 0 [aL 11 4 3, bE 12 0 0 V5 11, aR 13 12] (aB 13 (aA 1 [bS 6 0 Wd] .rt) .sk)) (aA 1 [aL 14 4 3, bE 15 0 1 Zmf 14, aI 16 1, aP 17 1 0 Xu 15 16, aI 7 17] (aA 1 [bS 8 0 Wd] (.sq (aA 0 [aN 18 3 2, aO 19 1 18, aJ 20 19, bH 21 0] (.bl 0 (.lp [3, 5, 7, 8, 19, 20, 21] Zxk))) (aA 0 [aI 43 8, bX 44 Zzz 43, aI 6 44] .rt))))))⟩
def Xn : AFn := ⟨1, [.t 2], (aA 1 [bR 1 0 Z1 4 0, bB 2] (aA 1 [aN 6 1 0, aO 7 1 6, aN 8 1 1, aO 9 1 8, aP 10 0 1 Zse 7 9, aI 5 10, aQ 11 5 0, aQ 12 5 1, aI 3 11, aI 4 12] (.sq (aA 0 [aI 13 4, aR 14 13, aI 15 14, aV 15 16 1 1, bY 15 17 1 16, bZ 15 18 17, cA 15 19 .gtr 18 8, aX 20 15 19, aI 21 20, aV 21 22 1 2, bY 21 23 1 22, bZ 21 24 23, cA 21 25 .gtr 24 8, aX 26 21 25, aI 27 26, aV 27 28 1 3, bY 27 29 1 28, cA 27 30 .lss 29 1, aX 31 27 30, aI 32 31, aV 32 33 1 3, bY 32 34 1 33, cA 32 35 .gtr 34 60, aX 36 32 35, aI 37 36, aU 37 38 4 1, bG 37 39 0 0 Zzf 38, bA 37 40 39, aX 41 37 40] (aB 41 (aA 0 [bB 2] .rt) .sk)) (.sq (.rg 2 true [aL 42 4 1, bE 43 0 1 Yl 42, aL 44 4 1, bE 45 1 1 Z5i 44, aP 46 2 0 Z0y 43 45, aR 47 46, aI 2 47]) .rt))))⟩
def Ya9 : AFn := ⟨2, [.t 4, .t 5], (aA 2 [bR 2 0 Z1 4 0, bS 4 1 Z2, bB 5] (aA 0 [aL 7 4 2, aI 8 1, aP 9 0 0 Y1k 7 8, aI 6 9] (.sq (aA 0 [aL 10 4 2, bE 11 0 0 V5 10, aR 12 11, aI 13 12, aS 13 14 6, cA 13 15 .lss 14 0, aX 16 13 15] (aB 16 (aA 1 [bS 4 0 Z2, bB 5] .rt) .sk)) (.sq (.rg 1 true [aL 17 4 2, aN 18 2 2, aO 19 1 18, aI 20 6, aM 21 Z4 19 20, aL 22 3 21, aP 23 0 1 Zfy 17 22, aI 4 23, bD 5]) .rt))))⟩
def Z69 : AFn := ⟨2, [.t 4], (aA 0 [bH 4 0] (.sq (aA 0 [aI 5 0, bE 6 0 0 W7 5, aR 7 6] (aB 7 (aA 0 [bH 4 (-1)] .rt) .sk)) (aA 0 [aI 8 0, aI 9 1, aP 10 0 0 Xu 8 9, aI 4 10] .rt)))⟩
def Ws : ACode := (aA 0 [aK 21 .lss 20 19] (.sq (aB 21 .sk (.xt 0)) (.sq (.bl 1 (aA 2 [aM 22 Z4 18 20, aL 23 3 22, .o (.al 8 0 Z4 [cQ, cQ, (.lit Z2 [])]), bF 3 8 23] (aA 0 [aI 24 5, bC 25 .geq 24 0] (aB 25 (.sq (.rg 2 true [aL 26 4 2, aL 27 3 8, aP 28 0 1 Zfy 26 27, aI 29 5, aM 30 Z2 28 29, aL 31 3 30, aN 32 8 0, aO 33 1 32, .o (.bld 34 1 [cQ, cQ, cR, cQ] [(0, 3, (.t 31)), (3, 1, (.t 33))]), .o (.al 9 1 Z5 [cQ, cQ, cR, cQ]), bF 4 9 34]) (.rg 1 true [aI 35 6, aI 36 6, aL 37 4 9, aP 38 0 0 Z60 36 37, aL 39 4 9, bV 40 0 Z5 4 39, .o (.dcall (some 41) Zza [(.t 35), (.t 38), (.t 40)]), aI 6 41])) .sk)))) (.rg 0 false [bC 42 .add 20 1, aI 20 42]))))
def Z16 : ACode := Ws
theorem Z13 : aG Z16 Ws := fun _ _ => rfl
def Z0s : AFn := ⟨2, [.t 4], (aA 2 [bR 2 0 Z1 4 0, bS 4 1 Z5] (.sq (aA 0 [aL 10 4 2, bE 11 0 0 V5 10, aR 12 11] (aB 12 (aA 1 [bS 4 0 Z5] .rt) .sk)) (aA 1 [aL 13 4 2, bE 14 0 1 Zmf 13, aI 15 1, aP 16 1 0 Xu 14 15, aI 5 16] (aA 1 [bS 6 0 Z5] (.sq (aA 0 [aN 17 2 2, aO 18 1 17, aJ 19 18, bH 20 0] (.bl 0 (.lp [2, 5, 6, 18, 19, 20] Z16))) (aA 1 [aI 43 6, bE 44 0 1 Zyp 43, aI 4 44] .rt))))))⟩
def Zq8 : ACode := (.sq (aA 0 [aI 11 5, aI 12 0, aJ 13 12, aK 14 .lss 11 13] (aB 14 .sk (.xt 0))) (.sq (.bl 1 (.sq (.rg 0 true [aI 17 0, aI 18 5, aM 19 Z5 17 18, aL 20 4 19, aI 21 1, aI 22 5, aM 23 Z5 21 22, aL 24 4 23, cB 25 [0, 0, 1, 0] 20 24]) (aB 25 (aA 0 [bB 4] .rt) .sk))) (.rg 0 false [aI 15 5, bC 16 .add 15 1, aI 5 16])))
def Zxt : ACode := Zq8
theorem Y2u : aG Zxt Zq8 := fun _ _ => rfl
def Ycn : AFn := ⟨2, [.t 4], (aA 0 [bB 4] (.sq (aA 0 [aI 6 0, aJ 7 6, aI 8 1, aJ 9 8, aK 10 .neq 7 9] (aB 10 (aA 0 [bB 4] .rt) .sk)) (.sq (aA 0 [bH 5 0] (.bl 0 (.lp [0, 1, 5] Zxt))) (aA 0 [bD 4] .rt))))⟩
def Z11 : ACode := (.sq (aA 0 [aI 24 7, aN 25 2 2, aO 26 1 25, aJ 27 26, aK 28 .lss 24 27] (aB 28 .sk (.xt 0))) (.sq (.bl 1 (.rg 2 true [aI 31 5, aL 32 4 2, aN 33 2 2, aO 34 1 33, aI 35 7, aM 36 Z4 34 35, aL 37 3 36, aP 38 0 1 Xa 32 37, aI 39 6, aM 40 Z2 38 39, aL 41 3 40, aN 42 2 2, aO 43 1 42, aI 44 7, aM 45 Z4 43 44, aN 46 45 0, aO 47 1 46, .o (.bld 48 1 [cQ, cQ, cR, cQ] [(0, 3, (.t 41)), (3, 1, (.t 47))]), aP 49 1 1 Z5t 31 48, aI 5 49])) (.rg 0 false [aI 29 7, bC 30 .add 29 1, aI 7 30])))
def Z3t : ACode := Z11
theorem Z88 : aG Z3t Z11 := fun _ _ => rfl
def Z0r : AFn := ⟨2, [.t 4], (aA 2 [bR 2 0 Z1 4 0, bS 4 1 Z5] (aA 1 [cC 8 0 Z5 4, aI 5 8] (.sq (aA 1 [aL 9 4 2, bE 10 0 0 Z0u 9, aR 11 10, aI 12 11, aU 12 13 4 2, bG 12 14 0 1 Yl 13, aS 12 15 1, aY 12 16 1 0 X9 14 15, cA 12 17 .lss 16 0, aX 18 12 17] (aB 18 (aA 0 [aI 19 5, aI 4 19] .rt) .sk)) (aA 1 [aL 20 4 2, bE 21 0 1 Yl 20, aI 22 1, aP 23 1 0 X9 21 22, aI 6 23] (.sq (aA 0 [bH 7 0] (.bl 0 (.lp [2, 5, 6, 7] Z3t))) (aA 0 [aI 50 5, aI 4 50] .rt))))))⟩
def Zrt : AFn := ⟨1, [.cell 2 4 true, .t 3], (aA 4 [.o (.al 2 0 Z1 [(.lit Z0 []), (.lit Z3 []), (.lit Z4 []), cQ]), .o (.mv 3 (.k cR))] (aA 0 [aI 6 0, bX 7 Z2z 6, aI 4 7] (aA 4 [aI 8 4, .o (.dcs (some 9) Z1q [(.t 8)]), .o (.al 5 0 Z1 [(.lit Z0 []), (.lit Z3 []), (.lit Z4 []), cQ]), bF 4 5 9] (.sq (.rgk 0 [((.t 5), (.k .bad))] [5] [aL 10 4 5, aI 11 4, aL 12 4 5, cD 13 Z4f 11 12, bF 4 2 10, aI 3 13]) .rt))))⟩
def Vw : ACode := (aA 0 [aK 8 .lss 7 6] (.sq (aB 8 .sk (.xt 0)) (.sq (.bl 1 (aA 1 [aI 9 7, aM 10 Z5 5 7, aL 11 4 10, .o (.al 4 0 Z5 [cQ, cQ, cR, cQ]), aI 3 9, bF 4 4 11] (.sq (.rg 0 true [aL 12 4 4, bE 13 0 0 Zyt 12, aR 14 13, aI 15 14, aS 15 16 3, cA 15 17 .gtr 16 0, aS 15 18 17, bK 18 19 0, bK 18 20 3, cE 18 21 .sub 20 1, bL 18 22 Z5 19 21, bI 18 23 4 22, bI 18 24 4 4, bT 18 25 0 0 Zup 23 24, bO 18 26 25, cF 15 27 18 26, aX 28 15 27]) (aB 28 (aA 0 [bB 2] .rt) .sk)))) (.rg 0 false [bC 29 .add 7 1, aI 7 29]))))
def Z3i : ACode := Vw
theorem Z3p : aG Z3i Vw := fun _ _ => rfl
def Z6h : AFn := ⟨1, [.t 2], (aA 0 [bB 2] (.sq (aA 0 [aI 5 0, aJ 6 5, bH 7 0] (.bl 0 (.lp [0, 5, 6, 7] Z3i))) (aA 0 [aI 30 0, aJ 31 30, bC 32 .leq 31 16, aI 2 32] .rt)))⟩
def Y64 : AFn := ⟨2, [.t 4], (aA 2 [bR 3 0 Z2 3 1, bS 4 1 Wd] (aA 1 [aI 5 0, .o (.mkf 6 Ztj [(.t 3)]), aP 7 0 1 Z5x 5 6, aI 4 7] .rt))⟩
def Zea : ACode := (aA 0 [aK 8 .lss 7 6] (.sq (aB 8 .sk (.xt 0)) (.sq (.bl 1 (aA 1 [aI 9 7, aM 10 Z5 5 7, aL 11 4 10, .o (.al 4 0 Z5 [cQ, cQ, cR, cQ]), aI 3 9, bF 4 4 11] (.sq (.rg 0 true [aI 12 3, bC 13 .gtr 12 0, aI 14 13, bM 14 15 4 0, bM 14 16 15 0, bN 14 17 1 16, cE 14 18 .neq 17 0, bQ 19 14 18, aI 20 19, bM 20 21 4 0, bI 20 22 3 21, bK 20 23 0, bK 20 24 3, cE 20 25 .sub 24 1, bL 20 26 Z5 23 25, bM 20 27 26 0, bI 20 28 3 27, bU 20 29 [0, 0, 1] 22 28, bQ 30 20 29]) (aB 30 (aA 0 [bB 2] .rt) .sk)))) (.rg 0 false [bC 31 .add 7 1, aI 7 31]))))
def Zp9 : ACode := Zea
theorem Znq : aG Zp9 Zea := fun _ _ => rfl
def Y51 : AFn := ⟨1, [.t 2], (aA 0 [bB 2] (.sq (aA 0 [aI 5 0, aJ 6 5, bH 7 0] (.bl 0 (.lp [0, 5, 6, 7] Zp9))) (aA 0 [aI 32 0, bE 33 0 0 V7 32, aI 2 33] .rt)))⟩
def Z4m : ACode := (.sq (aA 0 [aI 6 5, aI 7 0, aJ 8 7, aK 9 .lss 6 8] (aB 9 .sk (.xt 0))) (.sq (.bl 1 (aA 0 [aI 12 0, aI 13 5, aM 14 Z0 12 13, aN 15 14 0, aO 16 1 15, aI 17 1, aK 18 .eql 16 17] (aB 18 (aA 0 [aI 19 5, aI 4 19] .rt) .sk))) (.rg 0 false [aI 10 5, bC 11 .add 10 1, aI 5 11])))
def Z7d : ACode := Z4m
theorem Zbl : aG Z7d Z4m := fun _ _ => rfl
def Z7i : AFn := ⟨2, [.t 4], (aA 0 [bH 4 0] (.sq (aA 0 [bH 5 0] (.bl 0 (.lp [0, 1, 5] Z7d))) (aA 0 [bH 4 (-1)] .rt)))⟩
def Z79 : AFn := ⟨1, [.t 2], (aA 2 [bR 1 0 Z1 4 0, bS 2 1 Z0] (aA 1 [aL 3 4 1, aN 4 1 1, aO 5 1 4, aJ 6 5, aP 7 0 1 Yg 3 6, aI 2 7] .rt))⟩
def Z2m : AFn := ⟨1, [.t 2], (aA 0 [.o (.mv 2 (.k (.v (.pointer none))))] (.sq (aA 0 [aI 3 0, aJ 4 3, bC 5 .gtr 4 2000] (aB 5 (.rg 0 false [aI 6 0, .o (.sl 7 (some Vf) (.t 6) none (some (cP 2000)) none), aI 0 7]) .sk)) (aA 2 [aI 8 0, .o (.bld 9 0 [(.lit Vf []), cQ] [(0, 1, (.t 8))]), bR 10 1 Za2 2 9, aI 2 10] .rt)))⟩
def Z1x : AFn := ⟨1, [.cell 2 4 true], (aA 4 [.o (.al 2 0 Z1 [(.lit Z0 []), (.lit Z3 []), (.lit Z4 []), cQ])] (aA 0 [aI 3 0, aI 4 0, bX 5 Z2w 4, cD 6 Z43 3 5, bF 4 2 6] .rt))⟩
def Z7h : AFn := ⟨1, [.t 2], (aA 2 [bR 1 0 Z1 4 0, bS 2 1 Z0] (aA 1 [aL 3 4 1, bE 4 0 1 Zyx 3, aI 2 4] .rt))⟩
def Zs3 : AFn := ⟨2, [.t 4], (aA 0 [bH 4 0] (aA 0 [aI 7 0, aI 8 0, .o (.nl (some 9) (.t 8)), aN 10 9 1, aO 11 1 10, bC 12 .add 11 1, .o (.nl (some 13) (.t 7)), aN 14 13 1, bF 1 14 12] (.sq (aA 0 [aI 15 1, bC 16 .lss 15 1, aI 17 16, aS 17 18 0, .g 17 false (.nl (some 19) (.t 18)), aV 17 20 19 0, bY 17 21 1 20, bZ 17 22 21, cA 17 23 .eql 22 0, aX 24 17 23] (aB 24 (aA 0 [bH 4 0] .rt) .sk)) (aA 0 [aI 25 0, .o (.nl (some 26) (.t 25)), aN 27 26 1, aO 28 1 27, bC 29 .sub 28 1, aI 5 29] (.sq (aA 0 [aI 30 5, aI 31 0, .o (.nl (some 32) (.t 31)), aN 33 32 0, aO 34 1 33, aJ 35 34, aK 36 .lss 30 35] (aB 36 (aA 0 [aI 37 0, .o (.nl (some 38) (.t 37)), aN 39 38 0, aO 40 1 39, aI 41 5, aM 42 Vf 40 41, aO 43 1 42, .o (.cv 44 .i64 (.t 43)), aI 45 1, aK 46 .rem 44 45, aI 4 46] .rt) .sk)) (.sq (.rg 0 true [aI 47 0, .o (.nl (some 48) (.t 47)), aN 49 48 0, aO 50 1 49, aI 51 5, aI 52 0, .o (.nl (some 53) (.t 52)), aN 54 53 0, aO 55 1 54, aJ 56 55, aK 57 .rem 51 56, aM 58 Vf 50 57, aO 59 1 58, .o (.cv 60 .i64 (.t 59)), bC 61 .mul 60 131, aI 62 0, .o (.nl (some 63) (.t 62)), aN 64 63 0, aO 65 1 64, aI 66 5, bC 67 .mul 66 7, bC 68 .add 67 3, aI 69 0, .o (.nl (some 70) (.t 69)), aN 71 70 0, aO 72 1 71, aJ 73 72, aK 74 .rem 68 73, aM 75 Vf 65 74, aO 76 1 75, .o (.cv 77 .i64 (.t 76)), bC 78 .mul 77 1117, aK 79 .add 61 78, aI 80 5, bC 81 .mul 80 29, aK 82 .add 79 81, aI 83 5, aI 84 0, .o (.nl (some 85) (.t 84)), aN 86 85 0, aO 87 1 86, aJ 88 87, aK 89 .quo 83 88, bC 90 .mul 89 53, aK 91 .add 82 90, aI 6 91]) (aA 0 [aI 92 6, aI 93 6, bC 94 .quo 93 64, aK 95 .xor 92 94, aI 6 95] (aA 0 [aI 96 6, aI 97 1, aK 98 .rem 96 97, aI 4 98] .rt))))))))⟩
def Z8i : AFn := ⟨2, [.t 4], (aA 3 [bR 2 0 Z1 4 0, bR 3 1 Z4 3 1, bS 4 2 Z2] (.sq (.rg 2 true [aL 5 4 2, aN 6 3 1, aO 7 1 6, aP 8 0 1 Yg 5 7, aN 9 2 1, aO 10 1 9, aN 11 3 1, aO 12 1 11, .o (.sl 13 (some Z3) (.t 10) (some (.t 12)) none none), aN 14 3 2, aO 15 1 14, cG 16 1 1 Z4d 8 13 15, aI 4 16]) .rt))⟩
def Y5e : AFn := ⟨2, [.t 4], (aA 0 [.o (.mv 4 (.k cR))] (aA 0 [aI 5 1, aI 6 0, aI 7 1, aJ 8 7, cD 9 Z19 6 8, aM 10 Wu 5 9, aO 11 1 10, aI 4 11] .rt))⟩
def Z6j : AFn := ⟨0, [.t 0], (aA 1 [bS 0 0 Wu] (aA 1 [.o (.bsl 1 0 Wu 1 [(.k (.v (.string ⟨#[97]⟩))), (.k (.v (.string ⟨#[98]⟩))), (.k (.v (.string ⟨#[99]⟩))), (.k (.v (.string ⟨#[100]⟩))), (.k (.v (.string ⟨#[101]⟩))), (.k (.v (.string ⟨#[97, 98]⟩)))]), aI 0 1] .rt))⟩
def Z7u : AFn := ⟨1, [.cell 2 3 true], (aA 1 [.o (.al 2 0 Z2 [cQ, cQ, cR])] (aA 0 [aI 3 0, aI 4 0, aI 5 0, cH 6 Z19 5 3, cD 7 Xo 4 6, cD 8 Ww 3 7, bF 3 2 8] .rt))⟩
def Xe : ACode := (aA 0 [aK 42 .lss 41 40] (.sq (aB 42 .sk (.xt 0)) (.sq (.bl 1 (aA 2 [aM 43 Z4 39 41, aL 44 3 43, .o (.al 7 0 Z4 [cQ, cQ, (.lit Z2 [])]), bF 3 7 44] (.sq (aA 0 [aN 45 7 0, aO 46 1 45, aI 47 5, bC 48 .add 47 1, aN 49 1 3, aO 50 1 49, bC 51 .sub 50 1, cG 52 0 0 Wt 46 48 51, aR 53 52, aI 54 53, aV 54 55 7 1, bY 54 56 1 55, aV 54 57 1 1, bY 54 58 1 57, bZ 54 59 58, .g 54 false (.call (some 60) 0 0 Wt [(.t 56), (.k cQ), (.t 59)]), bA 54 61 60, aX 62 54 61] (aB 62 (aA 0 [bB 2] .rt) .sk)) (aA 0 [aN 63 7 0, aO 64 1 63, aI 5 64] (.sq (.rg 1 true [aN 66 1 0, aO 67 1 66, aN 68 1 1, aO 69 1 68, aN 70 7 1, aO 71 1 70, .o (.sl 72 (some Z3) (.t 69) none (some (.t 71)) none), aP 73 0 1 Wc 67 72, aI 65 73, aQ 74 65 0, aQ 75 65 1, aI 8 74, aI 9 75]) (aA 1 [aI 76 8, aN 77 7 2, aO 78 1 77, aP 79 0 0 Xg 76 78, aR 80 79, aI 81 80, aS 81 82 3, aU 81 83 4 1, aU 81 84 3 7, aY 81 85 0 1 Zfy 83 84, aY 81 86 1 0 Xg 82 85, bA 81 87 86, aX 88 81 87] (aB 88 (aA 0 [bB 2] .rt) .sk))))))) (.rg 0 false [bC 89 .add 41 1, aI 41 89]))))
def Xy : ACode := Xe
theorem Wo : aG Xy Xe := fun _ _ => rfl
def Wa : AFn := ⟨1, [.t 2], (aA 1 [bR 1 0 Z1 4 0, bB 2] (aA 1 [aN 11 1 0, aO 12 1 11, aN 13 1 1, aO 14 1 13, aP 15 0 1 Y25 12 14, aI 10 15, aQ 16 10 0, aQ 17 10 1, aI 3 16, aI 4 17] (.sq (aA 0 [aI 18 4, aR 19 18, aI 20 19, aV 20 21 1 1, bY 20 22 1 21, bZ 20 23 22, cA 20 24 .gtr 23 8, aX 25 20 24, aI 26 25, aV 26 27 1 2, bY 26 28 1 27, bZ 26 29 28, cA 26 30 .gtr 29 8, aX 31 26 30, aI 32 31, aV 32 33 1 3, bY 32 34 1 33, .g 32 false (.call (some 35) 0 0 Wt [(.t 34), (cP 1), (cP 60)]), bA 32 36 35, aX 37 32 36] (aB 37 (aA 0 [bB 2] .rt) .sk)) (aA 0 [bH 5 0] (.sq (aA 0 [aN 38 1 2, aO 39 1 38, aJ 40 39, bH 41 0] (.bl 0 (.lp [1, 3, 5, 39, 40, 41] Xy))) (aA 0 [aL 90 4 1, bE 91 0 0 Zly 90, aI 2 91] .rt))))))⟩
def Y4u : AFn := ⟨1, [.t 2], (aA 2 [bR 1 0 Z1 4 0, bS 2 1 Z0] (aA 1 [aN 6 1 0, aO 7 1 6, aN 8 1 1, aO 9 1 8, aP 10 0 1 Wc 7 9, aI 5 10, aQ 11 5 0, aQ 12 5 1, aI 3 11, aI 4 12] (aA 0 [aI 13 3, aI 2 13] .rt)))⟩
def Y59 : AFn := ⟨2, [.t 4], (aA 3 [bR 2 0 Z1 4 0, bR 3 1 Z4 3 1, bS 4 2 Z2] (.sq (.rg 1 true [aN 8 2 0, aO 9 1 8, aN 10 2 1, aO 11 1 10, aN 12 3 1, aO 13 1 12, .o (.sl 14 (some Z3) (.t 11) none (some (.t 13)) none), aP 15 0 1 Wc 9 14, aI 7 15, aQ 16 7 0, aQ 17 7 1, aI 5 16, aI 6 17]) (.sq (.rg 1 true [aI 18 5, aN 19 2 1, aO 20 1 19, aN 21 3 1, aO 22 1 21, .o (.sl 23 (some Z3) (.t 20) (some (.t 22)) none none), aN 24 3 2, aO 25 1 24, cG 26 0 1 Zz4 18 23 25, aI 4 26]) .rt)))⟩
def Y1z : AFn := ⟨1, [.t 2], (aA 1 [bS 2 0 Wd] (aA 0 [aI 3 0, aI 4 0, aJ 5 4, aI 6 0, aJ 7 6, .o (.sl 8 (some Wd) (.t 3) none (some (.t 5)) (some (.t 7))), aI 2 8] .rt))⟩
def Z12 : ACode := (aA 0 [aK 8 .lss 7 6] (.sq (aB 8 .sk (.xt 0)) (.sq (.bl 1 (aA 1 [aI 9 7, aM 10 Z0 5 7, aL 11 7 10, .o (.al 4 0 Z0 [cR, cQ, cS, cS, cQ, cQ, cR]), aI 3 9, bF 7 4 11] (aA 0 [aL 12 7 4, bE 13 0 0 Z62 12, aR 14 13, aI 15 14, aS 15 16 0, aV 15 17 4 0, bY 15 18 1 17, aY 15 19 0 0 Xu 16 18, aS 15 20 3, cI 15 21 .neq 19 20, aX 22 15 21] (aB 22 (aA 0 [bB 2] .rt) .sk)))) (.rg 0 false [bC 23 .add 7 1, aI 7 23]))))
def Z3q : ACode := Z12
theorem Z87 : aG Z3q Z12 := fun _ _ => rfl
def Z2n : AFn := ⟨1, [.t 2], (aA 0 [bB 2] (.sq (aA 0 [aI 5 0, aJ 6 5, bH 7 0] (.bl 0 (.lp [0, 5, 6, 7] Z3q))) (aA 0 [aI 24 0, aJ 25 24, .o (.call (some 26) 0 0 Wt [(.t 25), (cP 1), (cP 5)]), aI 2 26] .rt)))⟩
def Z8b : AFn := ⟨2, [.t 4], (aA 1 [bR 3 0 Wu 1 1, bH 4 0] (aA 0 [aI 5 0, .o (.mkf 6 V0 [(.t 3)]), aP 7 0 0 Y0f 5 6, aI 4 7] .rt))⟩
def Y05 : AFn := ⟨2, [.t 4], (aA 0 [bH 4 0] (aA 0 [aI 5 1, aI 6 0, aI 7 1, aJ 8 7, cD 9 Z19 6 8, aM 10 Wd 5 9, aO 11 1 10, aI 4 11] .rt))⟩
def Ze7 : ACode := (.sq (aA 0 [aI 16 7, aI 17 1, aJ 18 17, aK 19 .lss 16 18] (aB 19 .sk (.xt 0))) (.sq (.bl 1 (aA 0 [bB 8] (aA 1 [aI 23 6, aI 24 1, aI 25 7, aM 26 Z3 24 25, aL 27 10 26, aP 28 0 1 Z03 23 27, aI 22 28, aQ 29 22 0, aQ 30 22 1, aI 6 29, aI 8 30] (aA 0 [aI 31 8, aR 32 31] (aB 32 (aA 1 [cC 33 0 Z0 7, aI 4 33, bB 5] .rt) .sk))))) (.rg 0 false [aI 20 7, bC 21 .add 20 1, aI 7 21])))
def Znn : ACode := Ze7
theorem Zow : aG Znn Ze7 := fun _ _ => rfl
def Zxm : AFn := ⟨2, [.t 4, .t 5], (aA 1 [bS 4 0 Z0, bB 5] (.sq (aA 0 [aI 9 0, bE 10 0 0 W8 9, aR 11 10] (aB 11 (aA 1 [cC 12 0 Z0 7, aI 4 12, bB 5] .rt) .sk)) (aA 2 [cC 13 0 Z0 7, aI 14 0, bW 15 1 Z0 13 14, aI 6 15] (.sq (aA 0 [bH 7 0] (.bl 0 (.lp [1, 6, 7] Znn))) (aA 0 [aI 34 6, aI 4 34, bD 5] .rt)))))⟩
def Z05 : ACode := (.sq (aA 0 [aI 8 4, aN 9 1 2, aO 10 1 9, aJ 11 10, aK 12 .lss 8 11] (aB 12 .sk (.xt 0))) (.sq (.bl 1 (aA 2 [aN 15 1 2, aO 16 1 15, aI 17 4, aM 18 Z4 16 17, aL 19 3 18, .o (.al 5 0 Z4 [cQ, cQ, (.lit Z2 [])]), bF 3 5 19] (.sq (.sq (.rg 0 true [aN 20 5 1, aO 21 1 20, bC 22 .lss 21 0, aI 23 22, aV 23 24 5 1, bY 23 25 1 24, aV 23 26 1 1, bY 23 27 1 26, bZ 23 28 27, cI 23 29 .gtr 25 28, aX 30 23 29, aI 31 30, aV 31 32 5 0, bY 31 33 1 32, cA 31 34 .lss 33 1, aX 35 31 34, aI 36 35, aV 36 37 5 0, bY 36 38 1 37, aV 36 39 1 3, bY 36 40 1 39, cI 36 41 .geq 38 40, aX 42 36 41, aI 43 42, aS 43 44 4, cA 43 45 .gtr 44 0, aS 43 46 45, bM 46 47 1 2, bN 46 48 1 47, bK 46 49 4, cE 46 50 .sub 49 1, bL 46 51 Z4 48 50, bM 46 52 51 0, bN 46 53 1 52, bM 46 54 5 0, bN 46 55 1 54, cJ 46 56 .geq 53 55, cF 43 57 46 56, aX 58 43 57]) (aB 58 (aA 0 [bB 2] .rt) .sk)) (.sq (.rg 2 true [aL 59 4 1, aN 60 5 1, aO 61 1 60, aP 62 0 1 Yg 59 61, aN 63 5 2, aO 64 1 63, aP 65 1 0 Zw 62 64, aR 66 65, aI 67 66, aS 67 68 3, aU 67 69 4 1, aU 67 70 3 5, aY 67 71 1 1 Xa 69 70, aY 67 72 2 0 Zw 68 71, bA 67 73 72, aX 74 67 73]) (aB 74 (aA 0 [bB 2] .rt) .sk))))) (.rg 0 false [aI 13 4, bC 14 .add 13 1, aI 4 14])))
def Zol : ACode := Z05
theorem Z0n : aG Zol Z05 := fun _ _ => rfl
def Y06 : AFn := ⟨1, [.t 2], (aA 1 [bR 1 0 Z1 4 0, bB 2] (aA 1 [aL 6 4 1, bE 7 0 1 Yl 6, aI 3 7] (.sq (aA 0 [bH 4 0] (.bl 0 (.lp [1, 3, 4] Zol))) (aA 0 [bD 2] .rt))))⟩
def Wr : ACode := (.sq (aA 0 [aI 27 7, aI 28 6, aK 29 .lss 27 28] (aB 29 .sk (.xt 4))) (.sq (.bl 5 (.sq (.rg 0 true [aI 32 1, aI 33 6, aM 34 Zm 32 33, aO 35 1 34, aI 36 5, aM 37 Z2 35 36, aN 38 37 0, aO 39 1 38, bC 40 .neq 39 0, aI 41 40, bK 41 42 1, bK 41 43 6, bL 41 44 Zm 42 43, bN 41 45 1 44, bK 41 46 5, bL 41 47 Z2 45 46, bI 41 48 3 47, bK 41 49 1, bK 41 50 7, bL 41 51 Zm 49 50, bN 41 52 1 51, bK 41 53 5, bL 41 54 Z2 52 53, bI 41 55 3 54, bU 41 56 [0, 0, 1] 48 55, bQ 57 41 56]) (aB 57 (aA 0 [bD 4] .rt) .sk))) (.rg 0 false [aI 30 7, bC 31 .add 30 1, aI 7 31])))
def Wm : ACode := Wr
theorem Z18 : aG Wm Wr := fun _ _ => rfl
def Xx : ACode := (.sq (aA 0 [aI 14 6, aI 15 1, aJ 16 15, aK 17 .lss 14 16, aI 18 17, bK 18 19 0, bK 18 20 5, bL 18 21 Z0 19 20, bM 18 22 21 3, bN 18 23 1 22, bQ 24 18 23] (aB 24 .sk (.xt 2))) (.sq (.bl 3 (aA 0 [bH 7 0] (.bl 4 (.lp [0, 1, 5, 6, 7] Wm)))) (.rg 0 false [aI 25 6, bC 26 .add 25 1, aI 6 26])))
def Z17 : ACode := Xx
theorem Vu : aG Z17 Xx := fun _ _ => rfl
def Wp : ACode := (.sq (aA 0 [aI 8 5, aI 9 0, aJ 10 9, aK 11 .lss 8 10] (aB 11 .sk (.xt 0))) (.sq (.bl 1 (aA 0 [bH 6 0] (.bl 2 (.lp [0, 1, 5, 6] Z17)))) (.rg 0 false [aI 12 5, bC 13 .add 12 1, aI 5 13])))
def Z3v : ACode := Wp
theorem Z14 : aG Z3v Wp := fun _ _ => rfl
def Z2r : AFn := ⟨2, [.t 4], (aA 0 [bB 4] (.sq (aA 0 [bH 5 0] (.bl 0 (.lp [0, 1, 5] Z3v))) (aA 0 [bB 4] .rt)))⟩
def Z2x : ACode := (.sq (aA 0 [aI 6 4, aN 7 1 2, aO 8 1 7, aJ 9 8, aK 10 .lss 6 9] (aB 10 .sk (.xt 0))) (.sq (.bl 1 (.rg 3 true [aI 13 3, aL 14 4 1, aN 15 1 2, aO 16 1 15, aI 17 4, aM 18 Z4 16 17, aL 19 3 18, aP 20 0 1 Xa 14 19, bV 21 1 Zm 1 20, bW 22 2 Zm 13 21, aI 3 22])) (.rg 0 false [aI 11 4, bC 12 .add 11 1, aI 4 12])))
def Z6f : ACode := Z2x
theorem Zac : aG Z6f Z2x := fun _ _ => rfl
def Z8k : AFn := ⟨1, [.t 2], (aA 2 [bR 1 0 Z1 4 0, bS 2 1 Zm] (aA 1 [cC 5 0 Zm 1, aI 3 5] (.sq (aA 0 [bH 4 0] (.bl 0 (.lp [1, 3, 4] Z6f))) (aA 0 [aI 23 3, aI 2 23] .rt))))⟩
def Z1s : AFn := ⟨2, [.t 4], (aA 1 [bR 3 0 Z1 4 1, .o (.mv 4 (.k cR))] (aA 1 [aL 6 4 3, bE 7 0 1 Z4a 6, aI 5 7] (.sq (aA 0 [aI 8 5, aJ 9 8, bC 10 .gtr 9 0, aI 11 10, bK 11 12 0, cK 11 13 Z19 12 10, cE 11 14 .gtr 13 0, bQ 15 11 14] (aB 15 (aA 0 [aI 16 5, aI 17 0, aI 18 5, aJ 19 18, cD 20 Z19 17 19, aM 21 Z0 16 20, aN 22 21 0, aO 23 1 22, aI 4 23] .rt) .sk)) (aA 1 [aI 24 0, .o (.bsl 25 0 Wu 1 [(.k (.v (.string ⟨#[97]⟩))), (.k (.v (.string ⟨#[98]⟩))), (.k (.v (.string ⟨#[122, 122]⟩))), (.k cR)]), cD 26 Zai 24 25, aI 4 26] .rt))))⟩
def Y5c : AFn := ⟨2, [.t 4], (aA 2 [bR 2 0 Z1 4 0, bR 3 1 Wd 1 1, bH 4 0] (aA 0 [aN 5 2 2, aO 6 1 5, .o (.mkf 7 Zp5 [(.t 3)]), aP 8 0 0 Zz2 6 7, aI 4 8] .rt))⟩
def Xp : ACode := (.sq (aA 0 [aI 9 6, aI 10 1, aJ 11 10, aK 12 .lss 9 11] (aB 12 .sk (.xt 0))) (.sq (.bl 1 (aA 0 [aI 15 1, aI 16 6, aM 17 Z0 15 16, aN 18 17 2, aO 19 1 18, aI 20 19, aS 20 21 0, cL 20 22 Z19 21 2, cA 20 23 .eql 22 0, aX 24 20 23] (aB 24 (aA 1 [aI 25 0, aI 26 1, aI 27 6, aM 28 Z0 26 27, aN 29 28 1, aO 30 1 29, cD 31 Xo 25 30, .o (.al 7 0 Z2 [cQ, cQ, cR]), bF 3 7 31] (.sq (aA 0 [aI 32 1, aI 33 6, aM 34 Z0 32 33, aN 35 34 2, aO 36 1 35, aI 37 36, bM 37 38 7 0, bN 37 39 1 38, cE 37 40 .eql 39 0, bQ 41 37 40, aI 42 41, bK 42 43 0, cK 42 44 Z19 43 6, cE 42 45 .gtr 44 0, bQ 46 42 45] (aB 46 (.rg 0 false [aI 47 1, aI 48 6, aM 49 Z0 47 48, aN 50 49 1, aO 51 1 50, aN 52 7 0, bF 1 52 51]) .sk)) (.rg 2 true [aI 53 5, aI 54 1, aI 55 6, aM 56 Z0 54 55, aN 57 56 0, aO 58 1 57, aL 59 3 7, .o (.bld 60 0 [cR, cQ, cQ, cR] [(0, 1, (.t 58)), (1, 3, (.t 59))]), bV 61 0 Zh 4 60, bW 62 1 Zh 53 61, aI 5 62]))) .sk))) (.rg 0 false [aI 13 6, bC 14 .add 13 1, aI 6 14])))
def Z1w : ACode := Xp
theorem Ve : aG Z1w Xp := fun _ _ => rfl
def Z0i : AFn := ⟨2, [.t 4], (aA 1 [bS 4 0 Zh] (aA 1 [cC 8 0 Zh 4, aI 5 8] (.sq (aA 0 [bH 6 0] (.bl 0 (.lp [0, 1, 5, 6] Z1w))) (.sq (aA 0 [aI 63 0, cH 64 Z19 63 40] (.bl 2 (aA 0 [bC 66 .eql 64 0, aI 65 66] (aB 65 (aA 3 [aI 67 5, aI 68 0, .o (.bsl 69 0 Wu 1 [(.k (.v (.string ⟨#[97]⟩))), (.k (.v (.string ⟨#[122, 122]⟩))), (.k cR)]), cD 70 Zai 68 69, .o (.bld 71 1 [cR, cQ, cQ, cR] [(0, 1, (.t 70))]), bV 72 1 Zh 4 71, bW 73 2 Zh 67 72, aI 4 73] .rt) (aA 0 [bC 75 .eql 64 1, aI 74 75] (aB 74 (aA 0 [aI 76 5, aJ 77 76, bC 78 .gtr 77 0] (aB 78 (.rg 0 false [aI 79 5, aI 80 0, bX 81 Vs 80, .o (.ia 82 Zh (.t 79) (.k cQ)), aN 83 82 1, bF 3 83 81]) .sk)) .sk)))))) (aA 0 [aI 84 5, aI 4 84] .rt)))))⟩
def Yo : AFn := ⟨2, [.cell 4 4 true, .t 5], (aA 5 [bR 2 0 Z1 4 0, .o (.al 4 1 Z1 [(.lit Z0 []), (.lit Z3 []), (.lit Z4 []), cQ]), bH 5 0] (aA 1 [aL 11 4 2, .o (.callx (some 12) 0 1 Yl [(.t 11)]), aI 6 12] (aA 2 [aI 14 6, aI 15 6, bE 16 0 1 Z48 15, aI 17 1, cG 18 1 1 Z1m 14 16 17, aI 13 18, aQ 19 13 0, aQ 20 13 1, aI 7 19, aI 8 20] (.sq (aA 0 [aI 21 8, aR 22 21] (aB 22 (aA 0 [aL 23 4 2, bF 4 4 23, bH 5 1] .rt) .sk)) (aA 3 [aN 24 2 3, aO 25 1 24, aN 26 2 1, aO 27 1 26, aJ 28 27, aI 29 7, .o (.bld 30 0 [cQ, cQ, (.lit Z2 [])] [(0, 1, (.t 25)), (1, 1, (.t 28)), (2, 1, (.t 29))]), .o (.al 9 1 Z4 [cQ, cQ, (.lit Z2 [])]), bF 3 9 30] (aA 0 [aL 31 4 2, aL 32 3 9, .o (.callx (some 33) 0 0 Z1t [(.t 31), (.t 32)]), aI 10 33] (.sq (aA 0 [aI 34 10, bC 35 .eql 34 0, aI 36 35, bM 36 37 2 2, bN 36 38 1 37, cM 36 39 38, cE 36 40 .geq 39 8, bK 36 41 40, aV 41 42 2 3, bY 41 43 1 42, cA 41 44 .geq 43 60, bP 36 45 41 44, bQ 46 36 45] (aB 46 (.rg 0 false [bH 10 4]) .sk)) (.sq (aA 0 [aI 47 10, bC 48 .neq 47 0] (aB 48 (aA 0 [aL 49 4 2, aI 50 10, bF 4 4 49, aI 5 50] .rt) .sk)) (aA 2 [aN 51 2 2, aO 52 1 51, aL 53 3 9, .o (.bsb 54 0 Z4 3 [(.t 53)]), .o (.apb 55 1 Z4 (.t 52) (.t 54)), aN 56 2 2, bF 1 56 55] (aA 0 [aN 57 2 3, aO 58 1 57, bC 59 .add 58 1, aN 60 2 3, bF 1 60 59] (aA 0 [aL 61 4 2, aI 62 10, bF 4 4 61, aI 5 62] .rt)))))))))))⟩
def Z34 : ACode := (.sq (.sq (.rg 0 true [aI 6 5, aI 7 0, aJ 8 7, aK 9 .lss 6 8, aI 10 9, bK 10 11 0, bK 10 12 5, bL 10 13 Z5 11 12, bI 10 14 4 13, bI 10 15 4 3, bT 10 16 0 0 Zup 14 15, bQ 17 10 16]) (aB 17 .sk (.xt 0))) (.bl 1 (.rg 0 false [aI 18 5, bC 19 .add 18 1, aI 5 19])))
def Z6c : ACode := Z34
theorem Za6 : aG Z6c Z34 := fun _ _ => rfl
def Z8v : AFn := ⟨2, [.t 4], (aA 1 [bR 3 0 Z5 4 1, bH 4 0] (aA 0 [bH 5 0] (.sq (.bl 0 (.lp [0, 3, 5] Z6c)) (aA 0 [aI 20 5, aI 4 20] .rt))))⟩
def Y52 : AFn := ⟨1, [.t 2], (aA 1 [bR 1 0 Z5 4 0, bB 2] (aA 0 [aN 3 1 0, aL 4 3 3, bE 5 0 0 Wx 4, aI 6 5, bM 6 7 1 3, bN 6 8 1 7, .g 6 true (.call (some 9) 0 0 Wt [(.t 8), (cP 1), (cP 60)]), bQ 10 6 9, aI 2 10] .rt))⟩
def Y5t : AFn := ⟨1, [.t 2], (aA 1 [bS 2 0 Z5] (aA 1 [aI 3 0, bE 4 0 1 Zrl 3, bX 5 Y3j 4, aI 2 5] .rt))⟩
def Z30 : ACode := (.sq (.sq (.rg 0 true [aI 7 5, aI 8 0, aJ 9 8, aK 10 .lss 7 9, aI 11 10, bK 11 12 0, bK 11 13 5, bL 11 14 Z5 12 13, bI 11 15 4 14, bI 11 16 4 3, bT 11 17 0 0 Z46 15 16, bQ 18 11 17]) (aB 18 .sk (.xt 0))) (.bl 1 (.rg 0 false [aI 19 5, bC 20 .add 19 1, aI 5 20])))
def Z6e : ACode := Z30
theorem Za3 : aG Z6e Z30 := fun _ _ => rfl
def Z98 : AFn := ⟨2, [.t 4], (aA 2 [bR 3 0 Z5 4 1, bS 4 1 Z5] (aA 0 [bH 5 0] (.sq (.bl 0 (.lp [0, 3, 5] Z6e)) (aA 2 [cC 21 0 Z5 4, aI 22 0, aI 23 5, .o (.sl 24 (some Z5) (.t 22) (some (.t 23)) none none), bW 25 1 Z5 21 24, aI 6 25] (.sq (.rgs 5 [((.t 3), (.t 26)), ((.t 31), (.t 26))] [cC 26 0 Z5 4, aI 27 0, aI 28 5, .o (.sl 29 (some Z5) (.t 27) none (some (.t 28)) none), bW 30 1 Z5 26 29, aL 31 4 3, bV 32 2 Z5 4 31, bW 33 3 Z5 30 32, aI 34 6, bW 35 4 Z5 33 34, aI 4 35]) .rt)))))⟩
def Y6g : AFn := ⟨2, [.t 4], (aA 2 [bR 2 0 Z5 4 0, bR 3 1 Z5 4 1, bB 4] (aA 0 [aN 5 2 0, aL 6 3 5, aN 7 3 0, aL 8 3 7, aP 9 0 0 Z2u 6 8, aI 10 9, aV 10 11 2 0, aU 10 12 3 11, aV 10 13 3 0, aU 10 14 3 13, cN 10 15 [0, 0, 1] 12 14, aS 10 16 15, bM 16 17 2 3, bN 16 18 1 17, bM 16 19 3 3, bN 16 20 1 19, cJ 16 21 .lss 18 20, cF 10 22 16 21, aX 23 10 22, aI 4 23] .rt))⟩
def Z33 : ACode := (aA 0 [aK 14 .lss 13 12] (.sq (aB 14 .sk (.xt 0)) (.sq (.bl 1 (aA 1 [aM 15 Z5 11 13, aL 16 4 15, .o (.al 7 0 Z5 [cQ, cQ, cR, cQ]), bF 4 7 16] (aA 4 [aI 17 1, aN 18 7 0, aL 19 3 18, .o (.callv (some 20) 0 4 (.t 17) [(.t 19)])] (aB 20 (.rg 2 false [aI 21 5, aN 22 7 3, aO 23 1 22, bV 24 0 Wd 1 23, bW 25 1 Wd 21 24, aI 5 25]) .sk)))) (.rg 0 false [bC 26 .add 13 1, aI 13 26]))))
def Z6l : ACode := Z33
theorem Za9 : aG Z6l Z33 := fun _ _ => rfl
def Z5y : AFn := ⟨2, [.t 4], (aA 1 [bS 4 0 Wd] (.sq (aA 0 [aI 8 0, bE 9 0 0 V7 8, aR 10 9] (aB 10 (aA 1 [bS 4 0 Wd] .rt) .sk)) (aA 1 [bS 5 0 Wd] (.sq (aA 0 [aI 11 0, aJ 12 11, bH 13 0] (.bl 0 (.lp [1, 5, 11, 12, 13] Z6l))) (aA 0 [aI 27 5, bX 28 Zzz 27, aI 4 28] .rt)))))⟩
def Y4h : AFn := ⟨2, [.t 3], (aA 1 [bR 2 0 Z2 3 0, bB 3] (aA 0 [aL 4 3 2, aL 5 3 1, cO 6 [0, 0, 1] 4 5, aI 3 6] .rt))⟩
def Z67 : AFn := ⟨2, [.t 4], (aA 2 [bR 2 0 Z2 3 0, bR 3 1 Z2 3 1, bB 4] (.sq (.bl 0 (aA 0 [aN 6 2 0, aO 7 1 6, aN 8 3 0, aO 9 1 8, aK 10 .neq 7 9, aI 5 10] (aB 5 (aA 0 [aN 11 2 0, aO 12 1 11, aN 13 3 0, aO 14 1 13, aK 15 .lss 12 14, aI 4 15] .rt) (aA 0 [aN 17 2 1, aO 18 1 17, aN 19 3 1, aO 20 1 19, aK 21 .neq 18 20, aI 16 21] (aB 16 (aA 0 [aN 22 2 1, aO 23 1 22, aN 24 3 1, aO 25 1 24, aK 26 .lss 23 25, aI 4 26] .rt) .sk))))) (aA 0 [aN 27 2 2, aO 28 1 27, aN 29 3 2, aO 30 1 29, aK 31 .lss 28 30, aI 4 31] .rt)))⟩
def Z6a : AFn := ⟨2, [.t 4], (aA 2 [bR 2 0 Z1 4 0, bS 4 1 Z0] (.sq (.rg 1 true [aN 8 2 0, aO 9 1 8, aN 10 2 1, aO 11 1 10, aI 12 1, .o (.sl 13 (some Z3) (.t 11) none (some (.t 12)) none), aP 14 0 1 Zse 9 13, aI 7 14, aQ 15 7 0, aQ 16 7 1, aI 5 15, aI 6 16]) (aA 0 [aI 17 5, aI 4 17] .rt)))⟩
def Z4b : ACode := (.sq (aA 0 [aI 6 5, aN 7 2 2, aO 8 1 7, aJ 9 8, aK 10 .lss 6 9] (aB 10 .sk (.xt 0))) (.sq (.bl 1 (aA 0 [aN 13 2 2, aO 14 1 13, aI 15 5, aM 16 Z4 14 15, aN 17 16 0, aO 18 1 17, aI 19 1, aK 20 .eql 18 19] (aB 20 (aA 0 [aI 21 5, aI 4 21] .rt) .sk))) (.rg 0 false [aI 11 5, bC 12 .add 11 1, aI 5 12])))
def Z7o : ACode := Z4b
theorem Zb1 : aG Z7o Z4b := fun _ _ => rfl
def Z7k : AFn := ⟨2, [.t 4], (aA 1 [bR 2 0 Z1 4 0, bH 4 0] (.sq (aA 0 [bH 5 0] (.bl 0 (.lp [1, 2, 5] Z7o))) (aA 0 [bH 4 (-1)] .rt)))⟩
def Zo : AFn := ⟨2, [.cell 4 4 true], (aA 5 [bR 3 0 Z1 4 1, .o (.al 4 1 Z1 [(.lit Z0 []), (.lit Z3 []), (.lit Z4 []), cQ])] (aA 4 [aL 8 4 3, bX 9 Vp 8, .o (.al 5 0 Z1 [(.lit Z0 []), (.lit Z3 []), (.lit Z4 []), cQ]), bF 4 5 9] (aA 0 [aN 10 5 2, aO 11 1 10, aJ 12 11, aI 6 12] (.sq (aA 0 [aI 13 0, cH 14 Z19 13 70] (.bl 0 (aA 0 [bC 16 .eql 14 0, aI 15 16] (aB 15 (.rg 0 false [aI 17 0, aI 18 0, aI 19 0, aI 20 0, aN 21 5 0, aO 22 1 21, cD 23 Vq 20 22, cD 24 Vq 19 23, cD 25 Vq 18 24, cD 26 Vq 17 25, aN 27 5 0, bF 1 27 26]) (aA 0 [bC 29 .eql 14 1, aI 28 29] (aB 28 (aA 0 [aN 30 5 1, aO 31 1 30, aJ 32 31, bC 33 .gtr 32 0] (aB 33 (.rg 0 false [aN 34 5 1, aO 35 1 34, .o (.sl 36 (some Z3) (.t 35) (some (cP 1)) none none), aN 37 5 1, bF 1 37 36]) .sk)) (aA 0 [bC 39 .eql 14 2, aI 38 39] (aB 38 (aA 0 [aI 40 6, bC 41 .gtr 40 0] (aB 41 (.rgk 0 [((.t 42), (.k .bad)), ((.t 48), (.k .bad))] [5] [aN 42 5 2, aO 43 1 42, aI 44 0, aI 45 6, cD 46 Z19 44 45, aI 47 0, aN 48 5 1, aO 49 1 48, aJ 50 49, .o (.bll 51 Wd 1 [(cP (-1)), (.k cQ), (.t 50), (cP 9)]), cD 52 Zcb 47 51, aM 53 Z4 43 46, aN 54 53 1, bF 1 54 52]) .sk)) (aA 0 [bC 56 .eql 14 3, aI 55 56] (aB 55 (aA 0 [aI 57 6, bC 58 .gtr 57 0] (aB 58 (.rg 2 true [aN 59 5 2, aO 60 1 59, aN 61 5 2, aO 62 1 61, .o (.ia 63 Z4 (.t 62) (.k cQ)), aL 64 3 63, .o (.bsb 65 0 Z4 3 [(.t 64)]), .o (.apb 66 1 Z4 (.t 60) (.t 65)), aN 67 5 2, bF 1 67 66]) .sk)) (aA 0 [bC 69 .eql 14 4, aI 68 69] (aB 68 (.rg 0 false [aI 70 0, .o (.bll 71 Wd 1 [(.k cQ), (cP 1), (cP 60), (cP 61)]), cD 72 Zcb 70 71, aN 73 5 3, bF 1 73 72]) (aA 0 [bC 75 .eql 14 5, aI 74 75] (aB 74 (aA 0 [aI 76 6, bC 77 .gtr 76 0] (aB 77 (aA 0 [aI 78 0, aI 79 6, cD 80 Z19 78 79, aI 7 80] (.rgs 2 [((.t 81), (.t 89))] [aN 81 5 2, aO 82 1 81, aI 83 7, aN 84 5 2, aO 85 1 84, aI 86 7, aM 87 Z4 85 86, aN 88 87 2, aO 89 1 88, .o (.bld 90 0 [cQ, cQ, cR] []), bV 91 0 Z2 3 90, bW 92 1 Z2 89 91, aM 93 Z4 82 83, aN 94 93 2, bF 1 94 92])) .sk)) (aA 0 [bC 96 .eql 14 6, aI 95 96] (aB 95 (aA 0 [aI 97 6, bC 98 .gtr 97 0, aI 99 98, bM 99 100 5 2, bN 99 101 1 100, .g 99 true (.ia 102 Z4 (.t 101) (.k cQ)), bM 99 103 102 2, bN 99 104 1 103, cM 99 105 104, cE 99 106 .gtr 105 0, bQ 107 99 106] (aB 107 (.rgk 0 [((.t 108), (.k .bad)), ((.t 111), (.k .bad))] [100000, 5] [aN 108 5 2, aO 109 1 108, .o (.ia 110 Z4 (.t 109) (.k cQ)), aN 111 110 2, aO 112 1 111, aI 113 0, bX 114 Vs 113, .o (.ia 115 Z2 (.t 112) (.k cQ)), bF 3 115 114]) .sk)) .sk)))))))))))))))) (aA 0 [aL 116 4 5, bF 4 4 116] .rt)))))⟩
def Z10 : ACode := (.sq (aA 0 [aI 11 4, bC 12 .gtr 11 0] (aB 12 .sk (.xt 0))) (.sq (.bl 1 (.rg 0 false [aI 15 0, aL 16 4 3, .o (.dcf (some 17) Z3h [(.t 15), (.t 16)]), bF 4 3 17])) (.rg 0 false [aI 13 4, bC 14 .sub 13 1, aI 4 14])))
def Wn : ACode := Z10
theorem Z81 : aG Wn Z10 := fun _ _ => rfl
def V6 : AFn := ⟨1, [.cell 2 4 true], (aA 4 [.o (.al 2 0 Z1 [(.lit Z0 []), (.lit Z3 []), (.lit Z4 []), cQ])] (aA 7 [aI 5 0, bX 6 Z31 5, bE 7 0 3 Y1p 6, .o (.al 3 3 Z1 [(.lit Z0 []), (.lit Z3 []), (.lit Z4 []), cQ]), bF 4 3 7] (.sq (aA 0 [aI 8 0, .o (.bll 9 Wd 1 [(cP 6), (cP 10), (cP 16), (cP 24), (cP 3), (.k cQ)]), cD 10 Zcb 8 9, aI 4 10] (.bl 0 (.lp [0, 2, 3, 4] Wn))) (aA 0 [aL 18 4 3, bX 19 Vp 18, bF 4 2 19] .rt))))⟩
def Y0n : AFn := ⟨1, [.t 2], (aA 2 [bR 1 0 Z1 4 0, bS 2 1 Z0] (.sq (aA 0 [aL 3 4 1, bE 4 0 0 Z0u 3, aR 5 4] (aB 5 (aA 1 [cC 6 0 Z0 7, aI 2 6] .rt) .sk)) (aA 1 [aL 7 4 1, bE 8 0 1 Yl 7, aI 2 8] .rt)))⟩
def Vk : ACode := (.sq (aA 0 [aI 30 10, aI 31 1, aJ 32 31, aK 33 .lss 30 32] (aB 33 .sk (.xt 0))) (.sq (.bl 1 (aA 1 [aI 36 0, aI 37 1, aI 38 10, aM 39 Z3 37 38, aL 40 10 39, aI 41 9, cG 42 0 1 Z5p 36 40 41, aI 9 42] (.rg 1 false [aI 44 0, aI 45 1, aI 46 10, aM 47 Z3 45 46, aL 48 10 47, aP 49 0 1 Z03 44 48, aI 43 49, aQ 50 43 0, aQ 51 43 1, aI 0 50]))) (.rg 0 false [aI 34 10, bC 35 .add 34 1, aI 10 35])))
def Z56 : ACode := Vk
theorem Z1k : aG Z56 Vk := fun _ _ => rfl
def Z7n : AFn := ⟨3, [.t 6], (aA 1 [bS 6 0 Z2] (aA 1 [aI 12 0, aI 13 1, aP 14 0 1 Zse 12 13, aI 11 14, aQ 15 11 0, aQ 16 11 1, aI 7 15, aI 8 16] (.sq (aA 0 [aI 17 8, aR 18 17, aI 19 18, aS 19 20 2, bZ 19 21 20, aS 19 22 0, bZ 19 23 22, cI 19 24 .neq 21 23, aX 25 19 24] (aB 25 (aA 1 [cC 26 0 Z2 3, aI 6 26] .rt) .sk)) (aA 2 [cC 27 0 Z2 3, aI 28 2, bW 29 1 Z2 27 28, aI 9 29] (.sq (aA 0 [bH 10 0] (.bl 0 (.lp [0, 1, 9, 10] Z56))) (aA 0 [aI 52 9, aI 6 52] .rt))))))⟩
def Z0g : AFn := ⟨2, [.cell 4 3 true], (aA 2 [bR 3 0 Z2 3 1, .o (.al 4 1 Z2 [cQ, cQ, cR])] (.sq (aA 0 [aI 5 0, cH 6 Z19 5 32] (.bl 0 (aA 0 [bC 8 .eql 6 0, aI 7 8] (aB 7 (.rg 1 false [aI 9 0, .o (.bsl 10 0 Wd 1 [(.k cQ), (cP 3), (cP (-1)), (cP 1), (cP 2)]), cD 11 Zcb 9 10, aN 12 3 0, bF 1 12 11]) (aA 0 [bC 14 .eql 6 1, aI 13 14] (aB 13 (.rg 1 false [aI 15 0, .o (.bsl 16 0 Wd 1 [(cP 1000), (cP (-1000)), (cP 5), (cP 9223372036854775807)]), cD 17 Zcb 15 16, aN 18 3 1, bF 1 18 17]) (aA 0 [bC 20 .eql 6 2, aI 19 20] (aB 19 (.rg 1 false [aI 21 0, .o (.bsl 22 0 Wu 1 [(.k (.v (.string ⟨#[97, 98, 99, 100, 101]⟩))), (.k (.v (.string ⟨#[65]⟩))), (.k (.v (.string ⟨#[113]⟩))), (.k (.v (.string ⟨#[39]⟩)))]), cD 23 Zai 21 22, aN 24 3 2, bF 1 24 23]) .sk)))))))) (aA 0 [aL 25 3 3, bF 3 4 25] .rt)))⟩
def Z21 : AFn := ⟨2, [.cell 4 3 true], (aA 1 [.o (.al 4 0 Z2 [cQ, cQ, cR])] (.sq (aA 0 [aI 5 0, cH 6 Z19 5 6, bC 7 .eql 6 0, aI 8 7, aS 8 9 1, cA 8 10 .eql 9 0, aX 11 8 10] (aB 11 (aA 0 [.o (.bld 12 0 [cQ, cQ, cR] []), bF 3 4 12] .rt) .sk)) (.sq (aA 0 [aI 13 1, bC 14 .eql 13 1] (aB 14 (aA 1 [aI 15 1, aI 16 0, .o (.bsl 17 0 Wd 1 [(.k cQ), (cP 1), (cP 2), (cP 3), (cP (-1)), (cP 7), (cP 999), (cP (-999))]), cD 18 Zcb 16 17, .o (.bld 19 1 [cQ, cQ, cR] [(0, 1, (.t 15)), (1, 1, (.t 18))]), bF 3 4 19] .rt) .sk)) (aA 1 [aI 20 1, aI 21 0, .o (.bsl 22 0 Wu 1 [(.k cR), (.k (.v (.string ⟨#[97]⟩))), (.k (.v (.string ⟨#[98]⟩))), (.k (.v (.string ⟨#[97, 98]⟩))), (.k (.v (.string ⟨#[49, 50]⟩))), (.k (.v (.string ⟨#[45, 53]⟩))), (.k (.v (.string ⟨#[48, 48, 55]⟩))), (.k (.v (.string ⟨#[122, 122, 122, 122]⟩))), (.k (.v (.string ⟨#[51]⟩)))]), cD 23 Zai 21 22, .o (.bld 24 1 [cQ, cQ, cR] [(0, 1, (.t 20)), (2, 1, (.t 23))]), bF 3 4 24] .rt))))⟩
def Y21 : AFn := ⟨2, [.t 4, .t 5], (aA 1 [bS 4 0 Z0, bB 5] (.sq (aA 0 [aI 6 0, bE 7 0 0 W7 6, aR 8 7] (aB 8 (aA 1 [bS 4 0 Z0, bB 5] .rt) .sk)) (aA 1 [aI 9 0, aI 10 1, aP 11 0 1 Wc 9 10, aQ 12 11 0, aQ 13 11 1, aI 4 12, aI 5 13] .rt)))⟩
def Zfe : AFn := ⟨3, [.t 6], (aA 0 [bB 6] (aA 0 [aI 7 0, aI 8 1, aK 9 .geq 7 8, aI 10 9, bK 10 11 0, bK 10 12 2, cJ 10 13 .leq 11 12, bQ 14 10 13, aI 6 14] .rt))⟩
def Vz : ACode := (aA 0 [aK 16 .lss 15 14] (.sq (aB 16 .sk (.xt 0)) (.sq (.bl 1 (aA 1 [aM 17 Z3 13 15, aL 18 10 17, .o (.al 8 0 Z3 [cQ, cR, cR, cR, cQ, cS, cS, cQ, cQ, cR]), bF 10 8 18] (aA 1 [aI 20 6, aL 21 10 8, aP 22 0 1 X8 20 21, aI 19 22, aQ 23 19 0, aQ 24 19 1, aI 9 23, aI 10 24] (.sq (aA 0 [aI 25 10, aR 26 25] (aB 26 (aA 1 [bS 4 0 Z0, bB 5] .rt) .sk)) (.rg 0 false [aI 27 9, aI 6 27]))))) (.rg 0 false [bC 28 .add 15 1, aI 15 28]))))
def Z3l : ACode := Vz
theorem Z3k : aG Z3l Vz := fun _ _ => rfl
def Z2y : AFn := ⟨2, [.t 4, .t 5], (aA 1 [bS 4 0 Z0, bB 5] (aA 1 [aI 11 0, bE 12 0 1 Zf4 11, aI 6 12] (.sq (aA 0 [aI 13 1, aJ 14 13, bH 15 0] (.bl 0 (.lp [6, 13, 14, 15] Z3l))) (aA 0 [aI 29 6, aI 4 29, bD 5] .rt))))⟩
def Wb : ACode := (aA 0 [aK 15 .lss 14 13] (.sq (aB 15 .sk (.xt 0)) (.sq (.bl 1 (aA 1 [aI 16 14, aM 17 Z2 12 14, aL 18 3 17, .o (.al 6 0 Z2 [cQ, cQ, cR]), aI 5 16, bF 3 6 18] (.sq (.rg 0 true [aL 19 3 6, bE 20 0 0 Wx 19, aR 21 20, aI 22 21, aU 22 23 3 6, aS 22 24 0, aS 22 25 5, aT 22 26 Z0 24 25, aV 22 27 26 1, bY 22 28 1 27, aY 22 29 0 0 Zts 23 28, bA 22 30 29, aX 31 22 30, aI 32 31, aS 32 33 0, aS 32 34 5, aT 32 35 Z0 33 34, aV 32 36 35 2, bY 32 37 1 36, aS 32 38 37, bM 38 39 6 0, bN 38 40 1 39, cE 38 41 .eql 40 0, cF 32 42 38 41, aX 43 32 42]) (aB 43 (aA 0 [bB 4] .rt) .sk)))) (.rg 0 false [bC 44 .add 14 1, aI 14 44]))))
def Z6d : ACode := Wb
theorem Z00 : aG Z6d Wb := fun _ _ => rfl
def Z36 : AFn := ⟨2, [.t 4], (aA 0 [bB 4] (.sq (aA 0 [aI 7 1, aJ 8 7, aI 9 0, aJ 10 9, aK 11 .neq 8 10] (aB 11 (aA 0 [bB 4] .rt) .sk)) (.sq (aA 0 [aI 12 1, aJ 13 12, bH 14 0] (.bl 0 (.lp [0, 12, 13, 14] Z6d))) (aA 0 [bD 4] .rt))))⟩
def Z2q : ACode := (aA 0 [aK 28 .lss 27 26] (.sq (aB 28 .sk (.xt 1)) (.sq (.bl 2 (aA 0 [aI 29 27, aI 3 29] (aA 0 [aN 30 1 2, aO 31 1 30, aI 32 3, .o (.ix 33 (.t 31) (.t 32)), aI 4 33] (aA 0 [aI 34 4, .o (.bin 35 .lss (.t 34) (.k (.v (.int .u8 97)))), aI 36 35, aS 36 37 4, .g 36 false (.bin 38 .gtr (.t 37) (.k (.v (.int .u8 122)))), aX 39 36 38, aI 40 39, bK 40 41 4, .g 40 true (.bin 42 .lss (.t 41) (.k (.v (.int .u8 48)))), bK 40 43 42, aS 43 44 4, .g 43 false (.bin 45 .gtr (.t 44) (.k (.v (.int .u8 57)))), bP 40 46 43 45, bQ 47 40 46, aI 48 47, bK 48 49 4, .g 48 true (.bin 50 .neq (.t 49) (.k (.v (.int .u8 45)))), bQ 51 48 50] (aB 51 (aA 0 [bB 2] .rt) .sk))))) (.rg 0 false [bC 52 .add 27 1, aI 27 52]))))
def Z6g : ACode := Z2q
theorem Za5 : aG Z6g Z2q := fun _ _ => rfl
def Z92 : AFn := ⟨1, [.t 2], (aA 1 [bR 1 0 Z2 3 0, bB 2] (.sq (aA 0 [aN 5 1 0, aO 6 1 5] (.bl 0 (aA 0 [bC 8 .eql 6 0, aI 7 8] (aB 7 (aA 0 [aL 9 3 1, .o (.bld 10 0 [cQ, cQ, cR] []), cO 11 [0, 0, 1] 9 10, aI 2 11] .rt) (aA 0 [bC 13 .eql 6 1, aI 12 13] (aB 12 (aA 0 [aN 14 1 1, aO 15 1 14, .o (.call (some 16) 0 0 Wt [(.t 15), (cP (-999)), (cP 999)]), aI 17 16, bM 17 18 1 2, bN 17 19 1 18, .g 17 true (.bin 20 .eql (.t 19) (.k cR)), bQ 21 17 20, aI 2 21] .rt) (aA 0 [bC 23 .eql 6 2, aI 22 23] (aB 22 (.sq (aA 0 [aN 24 1 2, aO 25 1 24, .o (.len 26 true (.t 25)), bH 27 0] (.bl 1 (.lp [1, 26, 27] Z6g))) (aA 0 [aN 53 1 1, aO 54 1 53, bC 55 .eql 54 0, aI 56 55, bM 56 57 1 2, bN 56 58 1 57, .g 56 true (.len 59 true (.t 58)), cE 56 60 .leq 59 4, bQ 61 56 60, aI 2 61] .rt)) .sk)))))))) (aA 0 [bB 2] .rt)))⟩
def Zc7 : ACode := (aA 0 [aK 15 .lss 14 13] (.sq (aB 15 .sk (.xt 0)) (.sq (.bl 1 (aA 1 [aM 16 Z3 12 14, aL 17 10 16, .o (.al 9 0 Z3 [cQ, cR, cR, cR, cQ, cS, cS, cQ, cQ, cR]), bF 10 9 17] (aA 1 [aI 18 0, aL 19 10 9, aI 20 7, cG 21 0 1 Zzy 18 19 20, aI 7 21] (.rg 1 false [aI 23 0, aL 24 10 9, aP 25 0 1 X8 23 24, aI 22 25, aQ 26 22 0, aQ 27 22 1, aI 0 26])))) (.rg 0 false [bC 28 .add 14 1, aI 14 28]))))
def Zo6 : ACode := Zc7
theorem Zjo : aG Zo6 Zc7 := fun _ _ => rfl
def Y6u : AFn := ⟨3, [.t 6], (aA 1 [bS 6 0 Z2] (aA 1 [aI 10 2, bE 11 0 1 Zsl 10, aI 7 11] (.sq (aA 0 [aI 12 1, aJ 13 12, bH 14 0] (.bl 0 (.lp [0, 7, 12, 13, 14] Zo6))) (aA 0 [aI 29 7, aI 6 29] .rt))))⟩
def Z64 : AFn := ⟨2, [.t 4], (aA 2 [bR 2 0 Z2 3 0, bR 3 1 Z2 3 1, bB 4] (.sq (.bl 0 (aA 0 [aN 6 2 0, aO 7 1 6, aN 8 3 0, aO 9 1 8, aK 10 .neq 7 9, aI 5 10] (aB 5 (aA 0 [aN 11 2 0, aO 12 1 11, aN 13 3 0, aO 14 1 13, aK 15 .lss 12 14, aI 4 15] .rt) (aA 0 [aN 17 2 1, aO 18 1 17, aN 19 3 1, aO 20 1 19, aK 21 .neq 18 20, aI 16 21] (aB 16 (aA 0 [aN 22 2 1, aO 23 1 22, aN 24 3 1, aO 25 1 24, aK 26 .lss 23 25, aI 4 26] .rt) .sk))))) (aA 0 [aN 27 2 2, aO 28 1 27, aN 29 3 2, aO 30 1 29, aK 31 .lss 28 30, aI 4 31] .rt)))⟩
def Z94 : AFn := ⟨1, [.t 2], (aA 1 [bR 1 0 Z0 7 0, bB 2] (aA 0 [aN 3 1 0, aO 4 1 3, bE 5 0 0 Z4p 4, aI 6 5, bM 6 7 1 1, bN 6 8 1 7, .g 6 true (.call (some 9) 0 0 Wt [(.t 8), (cP 1), (cP 2)]), bQ 10 6 9, aI 11 10, bM 11 12 1 4, bI 11 13 3 12, bJ 11 14 0 0 Wx 13, bQ 15 11 14, aI 16 15, bM 16 17 1 4, bI 16 18 3 17, bM 16 19 1 1, bN 16 20 1 19, bT 16 21 0 0 Zts 18 20, bQ 22 16 21, aI 23 22, bM 23 24 1 3, bN 23 25 1 24, bO 23 26 25, bK 23 27 26, aV 27 28 1 4, aV 27 29 28 0, bY 27 30 1 29, cA 27 31 .eql 30 0, bP 23 32 27 31, bQ 33 23 32, aI 2 33] .rt))⟩
def Zi9 : ACode := (aA 0 [aK 9 .lss 8 7] (.sq (aB 9 .sk (.xt 0)) (.sq (.bl 1 (aA 0 [aI 10 8, aI 5 10] (aA 4 [aI 11 1, aI 12 0, aI 13 5, aM 14 Z0 12 13, aL 15 7 14, .o (.callv (some 16) 0 4 (.t 11) [(.t 15)])] (aB 16 (aA 0 [aI 17 5, aI 4 17] .rt) .sk)))) (.rg 0 false [bC 18 .add 8 1, aI 8 18]))))
def Zo3 : ACode := Zi9
theorem Zux : aG Zo3 Zi9 := fun _ _ => rfl
def Y13 : AFn := ⟨2, [.t 4], (aA 0 [bH 4 0] (.sq (aA 0 [aI 6 0, aJ 7 6, bH 8 0] (.bl 0 (.lp [0, 1, 7, 8] Zo3))) (aA 0 [bH 4 (-1)] .rt)))⟩
def Z63 : AFn := ⟨2, [.t 3], (aA 1 [bR 2 0 Z0 7 0, bB 3] (aA 0 [aN 4 2 0, aO 5 1 4, aO 6 1 1, aK 7 .eql 5 6, aI 3 7] .rt))⟩
def Z0z : ACode := (.sq (aA 0 [aI 4 3, aI 5 0, aJ 6 5, aK 7 .lss 4 6] (aB 7 .sk (.xt 0))) (.sq (.bl 1 (aA 0 [aI 10 0, aI 11 3, aM 12 Z0 10 11, aL 13 7 12, bE 14 0 0 Z5j 13, aR 15 14, aI 16 15, aS 16 17 0, aS 16 18 0, aS 16 19 3, aT 16 20 Z0 18 19, aV 16 21 20 0, bY 16 22 1 21, aY 16 23 0 0 X9 17 22, aS 16 24 3, cI 16 25 .neq 23 24, aX 26 16 25] (aB 26 (aA 0 [bB 2] .rt) .sk))) (.rg 0 false [aI 8 3, bC 9 .add 8 1, aI 3 9])))
def Z3x : ACode := Z0z
theorem Z85 : aG Z3x Z0z := fun _ _ => rfl
def Z35 : AFn := ⟨1, [.t 2], (aA 0 [bB 2] (.sq (aA 0 [bH 3 0] (.bl 0 (.lp [0, 3] Z3x))) (aA 0 [aI 27 0, aJ 28 27, bC 29 .geq 28 1, aI 30 29, bK 30 31 0, cM 30 32 31, cE 30 33 .leq 32 5, bQ 34 30 33, aI 2 34] .rt)))⟩
def Z2t : AFn := ⟨2, [.t 4, .t 5], (aA 2 [bR 3 0 Z3 10 1, bS 4 1 Z0, bB 5] (.sq (aA 0 [aI 7 0, bE 8 0 0 W8 7, aR 9 8] (aB 9 (aA 1 [cC 10 0 Z0 7, aI 4 10, bB 5] .rt) .sk)) (aA 1 [aI 11 0, aL 12 10 3, aP 13 0 1 Yc 11 12, aI 6 13] (.sq (aA 0 [aI 14 6, bE 15 0 0 W8 14, aR 16 15] (aB 16 (aA 2 [cC 17 0 Z0 7, aI 18 0, bW 19 1 Z0 17 18, aI 4 19, bB 5] .rt) .sk)) (aA 0 [aI 20 6, aI 4 20, bD 5] .rt)))))⟩
def Xb : ACode := (.sq (aA 0 [aI 16 5, aI 17 1, aJ 18 17, aK 19 .lss 16 18] (aB 19 .sk (.xt 0))) (.sq (.bl 1 (.sq (.rg 0 true [aI 22 1, aI 23 5, aM 24 Z2 22 23, aL 25 3 24, bE 26 0 0 Wy 25, aR 27 26, aI 28 27, aS 28 29 1, aS 28 30 5, aT 28 31 Z2 29 30, aV 28 32 31 0, bY 28 33 1 32, cA 28 34 .neq 33 0, aS 28 35 34, bK 35 36 1, bK 35 37 5, bL 35 38 Z2 36 37, bM 35 39 38 0, bN 35 40 1 39, bK 35 41 0, bK 35 42 5, bL 35 43 Z0 41 42, bM 35 44 43 1, bN 35 45 1 44, cJ 35 46 .neq 40 45, cF 28 47 35 46, aX 48 28 47, aI 49 48, aS 49 50 0, aS 49 51 5, aT 49 52 Z0 50 51, aV 49 53 52 2, bY 49 54 1 53, aS 49 55 54, bK 55 56 1, bK 55 57 5, bL 55 58 Z2 56 57, bM 55 59 58 0, bN 55 60 1 59, cE 55 61 .eql 60 0, cF 49 62 55 61, aX 63 49 62]) (aB 63 (aA 0 [bB 4] .rt) .sk))) (.rg 0 false [aI 20 5, bC 21 .add 20 1, aI 5 21])))
def Z01 : ACode := Xb
theorem W9 : aG Z01 Xb := fun _ _ => rfl
def Z1h : AFn := ⟨2, [.t 4], (aA 0 [bB 4] (.sq (aA 0 [aI 6 0, bE 7 0 0 W8 6, aR 8 7, aI 9 8, aS 9 10 1, bZ 9 11 10, aS 9 12 0, bZ 9 13 12, cI 9 14 .neq 11 13, aX 15 9 14] (aB 15 (aA 0 [bB 4] .rt) .sk)) (.sq (aA 0 [bH 5 0] (.bl 0 (.lp [0, 1, 5] Z01))) (aA 0 [bD 4] .rt))))⟩
def Zk1 : ACode := (aA 0 [aK 9 .lss 8 7] (.sq (aB 9 .sk (.xt 0)) (.sq (.bl 1 (aA 0 [aI 10 8, aI 5 10] (aA 4 [aI 11 1, aI 12 0, aI 13 5, aM 14 Z4 12 13, aL 15 3 14, .o (.callv (some 16) 0 4 (.t 11) [(.t 15)])] (aB 16 (aA 0 [aI 17 5, aI 4 17] .rt) .sk)))) (.rg 0 false [bC 18 .add 8 1, aI 8 18]))))
def Zns : ACode := Zk1
theorem Zv2 : aG Zns Zk1 := fun _ _ => rfl
def Y0x : AFn := ⟨2, [.t 4], (aA 0 [bH 4 0] (.sq (aA 0 [aI 6 0, aJ 7 6, bH 8 0] (.bl 0 (.lp [0, 1, 7, 8] Zns))) (aA 0 [bH 4 (-1)] .rt)))⟩
def Y4y : AFn := ⟨2, [.t 3], (aA 1 [bR 2 0 Z4 3 0, bB 3] (aA 0 [aN 4 2 0, aO 5 1 4, aO 6 1 1, aK 7 .eql 5 6, aI 3 7] .rt))⟩
def Z0b : ACode := (.sq (aA 0 [aI 63 11, aI 64 9, aK 65 .lss 63 64] (aB 65 .sk (.xt 2))) (.sq (.bl 3 (.sq (.rg 0 true [aI 68 2, aI 69 11, aM 70 Zh 68 69, aN 71 70 0, aO 72 1 71, aI 73 2, aI 74 9, aM 75 Zh 73 74, aN 76 75 0, aO 77 1 76, aK 78 .eql 72 77]) (aB 78 (aA 0 [aI 79 8, aI 6 79, bB 7] .rt) .sk))) (.rg 0 false [aI 66 11, bC 67 .add 66 1, aI 11 67])))
def Z4t : ACode := Z0b
theorem Z52 : aG Z4t Z0b := fun _ _ => rfl
def X5 : ACode := (.sq (aA 0 [aI 15 9, aI 16 2, aJ 17 16, aK 18 .lss 15 17] (aB 18 .sk (.xt 0))) (.sq (.bl 1 (aA 0 [aI 21 0, aI 22 2, aI 23 9, aM 24 Zh 22 23, aN 25 24 0, aO 26 1 25, aP 27 0 0 X9 21 26, aI 10 27] (.sq (.sq (.rg 0 true [aI 28 10, bC 29 .lss 28 0, aI 30 29, aS 30 31 2, aS 30 32 9, aT 30 33 Zh 31 32, aV 30 34 33 1, aU 30 35 3 34, bG 30 36 0 0 Wy 35, bA 30 37 36, aX 38 30 37, aI 39 38, aS 39 40 2, aS 39 41 9, aT 39 42 Zh 40 41, aV 39 43 42 1, aV 39 44 43 0, bY 39 45 1 44, cA 39 46 .neq 45 0, aS 39 47 46, bK 47 48 2, bK 47 49 9, bL 47 50 Zh 48 49, bM 47 51 50 1, bM 47 52 51 0, bN 47 53 1 52, bK 47 54 0, bK 47 55 10, bL 47 56 Z0 54 55, bM 47 57 56 1, bN 47 58 1 57, cJ 47 59 .neq 53 58, cF 39 60 47 59, aX 61 39 60]) (aB 61 (aA 0 [aI 62 8, aI 6 62, bB 7] .rt) .sk)) (.sq (aA 0 [bH 11 0] (.bl 2 (.lp [0, 2, 8, 9, 10, 11] Z4t))) (.rg 0 false [aI 80 8, aI 81 10, aI 82 2, aI 83 9, aM 84 Zh 82 83, aN 85 84 1, aL 86 3 85, aM 87 Z2 80 81, bF 3 87 86]))))) (.rg 0 false [aI 19 9, bC 20 .add 19 1, aI 9 20])))
def Z5b : ACode := X5
theorem Xq : aG Z5b X5 := fun _ _ => rfl
def Z4i : AFn := ⟨3, [.t 6, .t 7], (aA 1 [bS 6 0 Z2, bB 7] (aA 2 [cC 12 0 Z2 3, aI 13 1, bW 14 1 Z2 12 13, aI 8 14] (.sq (aA 0 [bH 9 0] (.bl 0 (.lp [0, 2, 8, 9] Z5b))) (aA 0 [aI 88 8, aI 6 88, bD 7] .rt))))⟩
def Z24 : ACode := (.sq (aA 0 [aI 6 4, aI 7 0, aJ 8 7, aK 9 .lss 6 8] (aB 9 .sk (.xt 0))) (.sq (.bl 1 (.rg 2 false [aI 12 3, aI 13 0, aI 14 4, aM 15 Z0 13 14, aN 16 15 4, aL 17 3 16, bV 18 0 Z2 3 17, bW 19 1 Z2 12 18, aI 3 19])) (.rg 0 false [aI 10 4, bC 11 .add 10 1, aI 4 11])))
def Z4y : ACode := Z24
theorem Z8q : aG Z4y Z24 := fun _ _ => rfl
def Z75 : AFn := ⟨1, [.t 2], (aA 1 [bS 2 0 Z2] (aA 1 [cC 5 0 Z2 3, aI 3 5] (.sq (aA 0 [bH 4 0] (.bl 0 (.lp [0, 3, 4] Z4y))) (aA 0 [aI 20 3, aI 2 20] .rt))))⟩
def Z09 : ACode := (.sq (aA 0 [aI 13 7, aN 14 2 2, aO 15 1 14, aJ 16 15, aK 17 .lss 13 16] (aB 17 .sk (.xt 0))) (.sq (.bl 1 (.sq (.rg 0 true [aN 20 2 2, aO 21 1 20, aI 22 7, aM 23 Z4 21 22, aN 24 23 0, aO 25 1 24, aN 26 3 0, aO 27 1 26, aK 28 .neq 25 27]) (aB 28 (.rg 3 true [aI 29 6, aL 30 4 2, aN 31 2 2, aO 32 1 31, aI 33 7, aM 34 Z4 32 33, aL 35 3 34, aP 36 0 1 Xa 30 35, bV 37 1 Zm 1 36, bW 38 2 Zm 29 37, aI 6 38]) .sk))) (.rg 0 false [aI 18 7, bC 19 .add 18 1, aI 7 19])))
def Z50 : ACode := Z09
theorem Z59 : aG Z50 Z09 := fun _ _ => rfl
def Z23 : AFn := ⟨2, [.t 4], (aA 2 [bR 2 0 Z1 4 0, bR 3 1 Z4 3 1, bH 4 0] (aA 1 [aL 8 4 2, bE 9 0 1 Yl 8, aI 5 9] (aA 1 [aN 10 3 2, aO 11 1 10, bV 12 0 Zm 1 11, aI 6 12] (.sq (aA 0 [bH 7 0] (.bl 0 (.lp [2, 3, 5, 6, 7] Z50))) (.sq (.bl 2 (aA 0 [aI 40 5, aN 41 3 2, aO 42 1 41, aP 43 0 0 Zw 40 42, aR 44 43, aI 39 44] (aB 39 (aA 0 [bH 4 2] .rt) (aA 0 [aI 46 5, aI 47 6, aP 48 0 0 Z0y 46 47, aI 45 48] (aB 45 (aA 0 [bH 4 3] .rt) .sk))))) (aA 0 [bH 4 0] .rt))))))⟩
def Y3y : AFn := ⟨1, [.t 2], (aA 1 [bS 2 0 Z5] (aA 0 [aI 3 0, aI 4 0, aJ 5 4, aI 6 0, aJ 7 6, .o (.sl 8 (some Z5) (.t 3) none (some (.t 5)) (some (.t 7))), aI 2 8] .rt))⟩
def Z7g : AFn := ⟨2, [.t 4], (aA 2 [bR 2 0 Z5 4 0, bR 3 1 Z5 4 1, bB 4] (.sq (aA 0 [aN 5 2 0, aL 6 3 5, aN 7 3 0, aL 8 3 7, cB 9 [0, 0, 1] 6 8] (aB 9 (aA 0 [aN 10 2 0, aL 11 3 10, aN 12 3 0, aL 13 3 12, aP 14 0 0 Z2o 11 13, aI 4 14] .rt) .sk)) (aA 0 [aN 15 2 3, aO 16 1 15, aN 17 3 3, aO 18 1 17, aK 19 .lss 16 18, aI 4 19] .rt)))⟩
def Zu : AFn := ⟨2, [.t 4], (aA 1 [bS 4 0 Z0] (aA 2 [cC 7 0 Z0 7, aI 8 1, bW 9 1 Z0 7 8, aI 5 9] (.sq (aA 0 [aI 10 5, aJ 11 10, bC 12 .eql 11 0] (aB 12 (aA 0 [aI 13 5, aI 4 13] .rt) .sk)) (aA 0 [aI 14 0, aI 15 5, aJ 16 15, cD 17 Z19 14 16, aI 6 17] (.sq (aA 0 [aI 18 0, cH 19 Z19 18 60] (.bl 0 (aA 0 [bC 21 .eql 19 0, aI 20 21] (aB 20 (.rg 1 false [aI 22 5, aI 23 6, aI 24 0, .o (.bsl 25 0 Wu 1 [(.k cR), (.k (.v (.string ⟨#[65]⟩))), (.k (.v (.string ⟨#[97, 98, 99, 100]⟩))), (.k (.v (.string ⟨#[97]⟩)))]), cD 26 Zai 24 25, aM 27 Z0 22 23, aN 28 27 0, bF 1 28 26]) (aA 0 [bC 30 .eql 19 1, aI 29 30] (aB 29 (.rg 1 false [aI 31 5, aI 32 6, aI 33 0, .o (.bsl 34 0 Wd 1 [(.k cQ), (cP 3), (cP 1), (cP 2)]), cD 35 Zcb 33 34, aM 36 Z0 31 32, aN 37 36 1, bF 1 37 35]) (aA 0 [bC 39 .eql 19 2, aI 38 39] (aB 38 (.rg 0 false [aI 40 5, aI 41 6, aI 42 0, bX 43 Vs 42, aM 44 Z0 40 41, aN 45 44 4, bF 3 45 43]) (aA 0 [bC 47 .eql 19 3, aI 46 47] (aB 46 (aA 2 [aI 48 5, aI 49 5, aI 50 6, aM 51 Z0 49 50, aL 52 7 51, bV 53 0 Z0 7 52, bW 54 1 Z0 48 53, aI 4 54] .rt) (aA 0 [bC 56 .eql 19 4, aI 55 56] (aB 55 (aA 1 [cC 57 0 Z0 7, aI 4 57] .rt) (aA 0 [bC 59 .eql 19 5, aI 58 59] (aB 58 (.rg 0 false [aI 60 5, aI 61 6, aI 62 5, aI 63 6, aM 64 Z0 62 63, aN 65 64 3, aO 66 1 65, aR 67 66, aM 68 Z0 60 61, aN 69 68 3, bF 1 69 67]) .sk)))))))))))))) (aA 0 [aI 70 5, aI 4 70] .rt))))))⟩
def Y3q : AFn := ⟨1, [.cell 2 4 true], (aA 4 [.o (.al 2 0 Z1 [(.lit Z0 []), (.lit Z3 []), (.lit Z4 []), cQ])] (.sq (aA 0 [aI 3 0, bE 4 0 0 W8 3, aR 5 4] (aB 5 (aA 3 [.o (.bld 6 0 [(.lit Z0 []), (.lit Z3 []), (.lit Z4 []), cQ] []), bF 4 2 6] .rt) .sk)) (aA 5 [cC 7 0 Z0 7, aI 8 0, bW 9 1 Z0 7 8, .o (.bld 10 2 [(.lit Z0 []), (.lit Z3 []), (.lit Z4 []), cQ] [(0, 1, (.t 9)), (3, 1, (cP 1))]), bF 4 2 10] .rt)))⟩
def Vy : ACode := (.sq (aA 0 [aI 10 4, bC 11 .gtr 10 0] (aB 11 .sk (.xt 0))) (.sq (.bl 1 (aA 2 [aI 14 0, aI 15 0, .o (.call (some 16) 0 1 Z02 []), cD 17 Zai 15 16, cD 18 Z3c 14 17, .o (.al 5 1 Z0 [cR, cQ, cS, cS, cQ, cQ, cR]), bF 7 5 18] (aA 0 [aI 19 3, aN 20 5 0, aO 21 1 20, aP 22 0 0 X9 19 21, bC 23 .lss 22 0] (aB 23 (.rg 2 false [aI 24 3, aL 25 7 5, bV 26 0 Z0 7 25, bW 27 1 Z0 24 26, aI 3 27]) .sk)))) (.rg 0 false [aI 12 4, bC 13 .sub 12 1, aI 4 13])))
def Z3s : ACode := Vy
theorem Z3r : aG Z3s Vy := fun _ _ => rfl
def Z6i : AFn := ⟨1, [.t 2], (aA 1 [bS 2 0 Z0] (aA 1 [cC 6 0 Z0 7, aI 3 6] (.sq (aA 0 [aI 7 0, cH 8 Z19 7 4, .o (.bin 9 .add (cP 1) (.t 8)), aI 4 9] (.bl 0 (.lp [0, 3, 4] Z3s))) (aA 0 [aI 28 3, aI 2 28] .rt))))⟩
def Z1f : AFn := ⟨3, [.t 6], (aA 2 [bR 4 0 Z3 10 1, bS 6 1 Z2] (aA 0 [aI 9 0, aN 10 4 1, aO 11 1 10, aP 12 0 0 X9 9 11, aI 7 12] (aA 2 [cC 13 0 Z2 3, aI 14 2, bW 15 1 Z2 13 14, aI 8 15] (.sq (aA 0 [aN 16 4 0, aO 17 1 16] (.bl 0 (aA 0 [bC 19 .eql 17 1, aI 18 19] (aB 18 (aA 2 [aI 20 8, aN 21 4 3, aN 22 21 4, aL 23 3 22, bV 24 0 Z2 3 23, bW 25 1 Z2 20 24, aI 6 25] .rt) (aA 0 [bC 27 .eql 17 2, aI 26 27] (aB 26 (.sq (.rg 3 true [cC 28 0 Z2 3, aI 29 2, aI 30 7, .o (.sl 31 (some Z2) (.t 29) none (some (.t 30)) none), bW 32 1 Z2 28 31, aI 33 2, aI 34 7, bC 35 .add 34 1, .o (.sl 36 (some Z2) (.t 33) (some (.t 35)) none none), bW 37 2 Z2 32 36, aI 6 37]) .rt) (aA 0 [bC 39 .eql 17 4, aI 38 39] (aB 38 (.rg 0 true [aI 40 8, aI 41 7, aI 42 2, aI 43 7, aM 44 Z2 42 43, aL 45 3 44, aN 46 4 3, aN 47 46 1, aO 48 1 47, aP 49 0 0 Z1i 45 48, aM 50 Z2 40 41, bF 3 50 49]) .sk)))))))) (aA 0 [aI 51 8, aI 6 51] .rt)))))⟩
def Y3t : AFn := ⟨1, [.t 2], (aA 1 [bS 2 0 Z0] (aA 1 [aI 3 0, bE 4 0 1 Zgd 3, bX 5 Zwt 4, aI 2 5] .rt))⟩
def Y9 : AFn := ⟨2, [.t 4, .t 5], (aA 2 [bR 3 0 Z3 10 1, bS 4 1 Z0, bB 5] (aA 1 [aI 8 0, bE 9 0 1 Zf4 8, aI 6 9] (aA 0 [aI 10 0, aN 11 3 1, aO 12 1 11, aP 13 0 0 Xu 10 12, aI 7 13] (.sq (aA 0 [aL 14 10 3, bE 15 0 0 Zhe 14, aR 16 15, aI 17 16, aV 17 18 3 0, bY 17 19 1 18, cA 17 20 .neq 19 1, aS 17 21 20, bK 21 22 7, cE 21 23 .lss 22 0, cF 17 24 21 23, aX 25 17 24] (aB 25 (aA 0 [aI 26 6, aI 4 26, bB 5] .rt) .sk)) (.sq (aA 0 [aN 27 3 0, aO 28 1 27] (.bl 0 (aA 0 [bC 30 .eql 28 1, aI 29 30] (aB 29 (.sq (aA 0 [aN 31 3 3, aN 32 31 2, aO 33 1 32, aI 34 33, bM 34 35 3 3, bM 34 36 35 4, bM 34 37 36 0, bN 34 38 1 37, cE 34 39 .eql 38 0, bQ 40 34 39] (aB 40 (aA 0 [aI 41 6, aI 4 41, bB 5] .rt) .sk)) (.rg 2 false [aI 42 6, aN 43 3 3, aL 44 7 43, bV 45 0 Z0 7 44, bW 46 1 Z0 42 45, aI 6 46])) (aA 0 [bC 48 .eql 28 2, aI 47 48] (aB 47 (.rg 0 false [aI 49 6, aI 50 7, aI 51 7, bC 52 .add 51 1, .o (.dcall (some 53) Zr9 [(.t 49), (.t 50), (.t 52)]), aI 6 53]) (aA 0 [bC 55 .eql 28 3, aI 54 55] (aB 54 (.rg 0 false [aI 56 6, aI 57 7, aN 58 3 2, aO 59 1 58, aM 60 Z0 56 57, aN 61 60 0, bF 1 61 59]) (aA 0 [bC 63 .eql 28 4, aI 62 63] (aB 62 (.sq (.sq (.rg 0 true [aN 64 3 3, aN 65 64 1, aO 66 1 65, aI 67 6, aI 68 7, aM 69 Z0 67 68, aN 70 69 1, aO 71 1 70, aK 72 .eql 66 71]) (aB 72 (aA 0 [aI 73 6, aI 4 73, bB 5] .rt) .sk)) (.rg 0 true [aI 74 6, aI 75 7, aI 76 6, aI 77 7, aN 78 3 3, aN 79 78 1, aO 80 1 79, aI 81 6, aI 82 7, aM 83 Z0 81 82, aN 84 83 4, aL 85 3 84, aN 86 3 3, aN 87 86 1, aO 88 1 87, aP 89 0 0 Z1e 85 88, aM 90 Z0 74 75, aN 91 90 1, bF 1 91 80, aM 92 Z0 76 77, aN 93 92 4, bF 3 93 89])) .sk)))))))))) (.sq (aA 0 [aI 94 6, bE 95 0 0 W7 94, aR 96 95] (aB 96 (aA 1 [aI 97 0, bE 98 0 1 Zf4 97, aI 4 98, bB 5] .rt) .sk)) (aA 1 [aI 99 6, bE 100 0 1 Zf4 99, aI 4 100, bD 5] .rt)))))))⟩
def Y68 : AFn := ⟨2, [.t 4], (aA 1 [bR 2 0 Z2 3 0, bB 4] (aA 0 [aN 5 2 0, aO 6 1 5, bC 7 .eql 6 0, aI 8 7, aV 8 9 2 0, bY 8 10 1 9, aS 8 11 1, cI 8 12 .eql 10 11, aX 13 8 12, aI 4 13] .rt))⟩
def Y47 : AFn := ⟨1, [.t 2], (aA 1 [bS 2 0 Z2] (aA 1 [aI 3 0, bE 4 0 1 Zhb 3, bX 5 Zu0 4, aI 2 5] .rt))⟩
def Zru : AFn := ⟨3, [.t 6], (aA 2 [bR 4 0 Z3 10 1, bS 6 1 Z2] (aA 1 [aI 9 2, bE 10 0 1 Zsl 9, aI 7 10] (aA 0 [aI 11 0, aN 12 4 1, aO 13 1 12, aP 14 0 0 Xu 11 13, aI 8 14] (.sq (aA 0 [aN 15 4 0, aO 16 1 15] (.bl 0 (aA 0 [bC 18 .eql 16 1, aI 17 18] (aB 17 (.rg 2 false [aI 19 7, aN 20 4 3, aN 21 20 4, aL 22 3 21, bV 23 0 Z2 3 22, bW 24 1 Z2 19 23, aI 7 24]) (aA 0 [bC 26 .eql 16 2, aI 25 26] (aB 25 (.rg 0 false [aI 27 7, aI 28 8, aI 29 8, bC 30 .add 29 1, .o (.dcall (some 31) Zqn [(.t 27), (.t 28), (.t 30)]), aI 7 31]) (aA 0 [bC 33 .eql 16 4, aI 32 33] (aB 32 (.rg 0 true [aI 34 7, aI 35 8, aI 36 7, aI 37 8, aM 38 Z2 36 37, aL 39 3 38, aN 40 4 3, aN 41 40 1, aO 42 1 41, aP 43 0 0 Z1e 39 42, aM 44 Z2 34 35, bF 3 44 43]) .sk)))))))) (aA 1 [aI 45 7, bE 46 0 1 Zsl 45, aI 6 46] .rt)))))⟩
def Z9d : AFn := ⟨1, [.t 2], (aA 1 [bR 1 0 Z2 3 0, bB 2] (.sq (aA 0 [aN 3 1 0, aO 4 1 3] (.bl 0 (aA 0 [bC 6 .eql 4 0, aI 5 6] (aB 5 (aA 0 [aL 7 3 1, .o (.bld 8 0 [cQ, cQ, cR] []), cO 9 [0, 0, 1] 7 8, aI 2 9] .rt) (aA 0 [bC 11 .eql 4 1, aI 10 11] (aB 10 (aA 0 [aN 12 1 2, aO 13 1 12, .o (.bin 14 .eql (.t 13) (.k cR)), aI 15 14, bM 15 16 1 1, bN 15 17 1 16, bJ 15 18 0 0 Z1d 17, bQ 19 15 18, aI 2 19] .rt) (aA 0 [bC 21 .eql 4 2, aI 20 21] (aB 20 (aA 0 [aN 22 1 1, aO 23 1 22, bC 24 .eql 23 0, aI 25 24, bM 25 26 1 2, bN 25 27 1 26, bJ 25 28 0 0 Z47 27, bQ 29 25 28, aI 2 29] .rt) .sk)))))))) (aA 0 [bB 2] .rt)))⟩
def Z1z : ACode := (aA 0 [aK 7 .lss 6 5] (.sq (aB 7 .sk (.xt 0)) (.sq (.bl 1 (aA 0 [aI 8 6, aI 3 8] (aA 0 [aI 9 0, aI 10 3, .o (.ix 11 (.t 9) (.t 10)), .o (.bin 12 .lss (.t 11) (.k (.v (.int .u8 97)))), aI 13 12, aS 13 14 0, aS 13 15 3, .g 13 false (.ix 16 (.t 14) (.t 15)), .g 13 false (.bin 17 .gtr (.t 16) (.k (.v (.int .u8 122)))), aX 18 13 17] (aB 18 (aA 0 [bB 2] .rt) .sk)))) (.rg 0 false [bC 19 .add 6 1, aI 6 19]))))
def Z53 : ACode := Z1z
theorem Z8r : aG Z53 Z1z := fun _ _ => rfl
def Z44 : AFn := ⟨1, [.t 2], (aA 0 [bB 2] (.sq (aA 0 [aI 4 0, .o (.len 5 true (.t 4)), bH 6 0] (.bl 0 (.lp [0, 5, 6] Z53))) (aA 0 [aI 20 0, .o (.len 21 true (.t 20)), .o (.call (some 22) 0 0 Wt [(.t 21), (cP 1), (cP 3)]), aI 2 22] .rt)))⟩
def Z96 : AFn := ⟨1, [.t 2], (aA 1 [bR 1 0 Z0 7 0, bB 2] (aA 0 [aN 3 1 0, aO 4 1 3, bE 5 0 0 Z4j 4, aI 6 5, bM 6 7 1 1, bN 6 8 1 7, cE 6 9 .eql 8 1, bK 6 10 9, aV 10 11 1 1, bY 10 12 1 11, cA 10 13 .eql 12 2, bP 6 14 10 13, bQ 15 6 14, aI 16 15, bM 16 17 1 4, bI 16 18 3 17, bJ 16 19 0 0 Wy 18, bQ 20 16 19, aI 21 20, bM 21 22 1 4, bM 21 23 22 0, bN 21 24 1 23, cE 21 25 .eql 24 0, bK 21 26 25, aV 26 27 1 4, aV 26 28 27 0, bY 26 29 1 28, aV 26 30 1 1, bY 26 31 1 30, cI 26 32 .eql 29 31, bP 21 33 26 32, bQ 34 21 33, aI 35 34, bM 35 36 1 3, bN 35 37 1 36, bO 35 38 37, bK 35 39 38, aV 39 40 1 4, aV 39 41 40 0, bY 39 42 1 41, cA 39 43 .eql 42 0, bP 35 44 39 43, bQ 45 35 44, aI 2 45] .rt))⟩
def Yw : AFn := ⟨2, [.t 4], (aA 2 [bR 3 0 Z3 10 1, bS 4 1 Z0] (aA 0 [aI 7 0, aN 8 3 1, aO 9 1 8, aP 10 0 0 X9 7 9, aI 5 10] (aA 2 [cC 11 0 Z0 7, aI 12 0, bW 13 1 Z0 11 12, aI 6 13] (.sq (.bl 0 (aA 0 [aN 15 3 0, aO 16 1 15, bC 17 .eql 16 1, aI 18 17, bM 18 19 3 1, bN 18 20 1 19, .g 18 true (.bin 21 .eql (.t 20) (.k cR)), bQ 22 18 21, aI 23 22, bM 23 24 3 2, bN 23 25 1 24, .g 23 true (.bin 26 .eql (.t 25) (.k cR)), bQ 27 23 26, aI 28 27, bM 28 29 3 3, bM 28 30 29 2, bN 28 31 1 30, bO 28 32 31, bK 28 33 32, aV 33 34 3 3, aV 33 35 34 4, aV 33 36 35 0, bY 33 37 1 36, cA 33 38 .neq 37 0, bP 28 39 33 38, bQ 40 28 39, aI 14 40] (aB 14 (aA 2 [aI 41 6, aN 42 3 3, aL 43 7 42, bV 44 0 Z0 7 43, bW 45 1 Z0 41 44, aI 4 45] .rt) (.sq (.rg 0 true [aN 47 3 0, aO 48 1 47, bC 49 .eql 48 1, aI 50 49, aS 50 51 5, cA 50 52 .lss 51 0, aX 53 50 52, aI 54 53, aV 54 55 3 3, aU 54 56 7 55, aU 54 57 10 3, bG 54 58 0 0 Z0k 57, aW 54 59 [1, 0, 2, 2, 0, 0, 1] 56 58, aX 60 54 59, aI 46 60]) (aB 46 (aA 1 [cC 61 0 Z0 7, aI 4 61] .rt) (aA 0 [aN 63 3 0, aO 64 1 63, bC 65 .eql 64 2, aI 66 65, bM 66 67 3 2, bN 66 68 1 67, .g 66 true (.bin 69 .eql (.t 68) (.k cR)), bQ 70 66 69, aI 62 70] (aB 62 (aA 1 [aI 71 0, aI 72 5, aP 73 0 1 Z3f 71 72, aI 4 73] .rt) (aA 0 [aN 75 3 0, aO 76 1 75, bC 77 .eql 76 3, aI 74 77] (aB 74 (aA 0 [aI 78 6, aI 79 5, aN 80 3 2, aO 81 1 80, aM 82 Z0 78 79, aN 83 82 0, bF 1 83 81] (aA 0 [aI 84 6, aI 4 84] .rt)) (.sq (.rg 0 true [aN 86 3 0, aO 87 1 86, bC 88 .eql 87 4, aI 89 88, bM 89 90 3 2, bN 89 91 1 90, .g 89 true (.bin 92 .eql (.t 91) (.k cR)), bQ 93 89 92, aI 94 93, bM 94 95 3 3, bM 94 96 95 1, bN 94 97 1 96, bK 94 98 0, bK 94 99 5, bL 94 100 Z0 98 99, bM 94 101 100 1, bN 94 102 1 101, cJ 94 103 .neq 97 102, bQ 104 94 103, aI 85 104]) (aB 85 (aA 0 [aI 105 6, aI 106 5, aN 107 3 3, aN 108 107 1, aO 109 1 108, aM 110 Z0 105 106, aN 111 110 1, bF 1 111 109] (.sq (.rg 0 true [aI 112 6, aI 113 5, aI 114 0, aI 115 5, aM 116 Z0 114 115, aN 117 116 4, aL 118 3 117, aN 119 3 3, aN 120 119 1, aO 121 1 120, aP 122 0 0 Z1i 118 121, aM 123 Z0 112 113, aN 124 123 4, bF 3 124 122]) (aA 0 [aI 125 6, aI 4 125] .rt))) .sk))))))))))) (aA 1 [cC 126 0 Z0 7, aI 4 126] .rt)))))⟩
def Z5n : AFn := ⟨2, [.cell 4 7 true], (aA 1 [.o (.al 4 0 Z0 [cR, cQ, cS, cS, cQ, cQ, cR])] (aA 1 [aI 6 1, aI 7 0, cH 8 Z19 7 2, .o (.bin 9 .add (cP 1) (.t 8)), aI 10 0, cH 11 Z19 10 4, bC 12 .eql 11 0, .o (.bld 13 0 [cR, cQ, cS, cS, cQ, cQ, cR] [(0, 1, (.t 6)), (1, 1, (.t 9)), (2, 1, (.t 12))]), .o (.al 5 0 Z0 [cR, cQ, cS, cS, cQ, cQ, cR]), bF 7 5 13] (.sq (aA 0 [aI 14 0, cH 15 Z19 14 4, bC 16 .eql 15 0] (aB 16 (aA 0 [aN 17 5 3, .o (.st 1 (.t 17) (.k (.v (.bool true))))] (aA 0 [aL 18 7 5, bF 7 4 18] .rt)) .sk)) (aA 0 [aI 19 0, aN 20 5 1, aO 21 1 20, cD 22 Xo 19 21, aN 23 5 4, bF 3 23 22] (aA 0 [aL 24 7 5, bF 7 4 24] .rt)))))⟩
def Z5l : AFn := ⟨2, [.t 4], (aA 0 [bH 4 0] (.sq (aA 0 [aI 5 0, aI 6 1, aK 7 .gtr 5 6] (aB 7 (aA 0 [aI 8 0, aI 4 8] .rt) .sk)) (aA 0 [aI 9 1, aI 4 9] .rt)))⟩
def Z0c : AFn := ⟨2, [.cell 4 4 true, .t 5], (aA 5 [bR 2 0 Z1 4 0, .o (.al 4 1 Z1 [(.lit Z0 []), (.lit Z3 []), (.lit Z4 []), cQ]), bH 5 0] (aA 0 [aL 7 4 2, aI 8 1, .o (.callx (some 9) 0 0 Z57 [(.t 7), (.t 8)]), aI 6 9] (.sq (aA 0 [aI 10 6, bC 11 .lss 10 0] (aB 11 (aA 0 [aL 12 4 2, bF 4 4 12, bH 5 5] .rt) .sk)) (.sq (.rgs 3 [((.t 19), (.t 13))] [.o (.bsb 13 0 Z4 3 []), aN 14 2 2, aO 15 1 14, aI 16 6, .o (.sl 17 (some Z4) (.t 15) none (some (.t 16)) none), .o (.apb 18 1 Z4 (.t 13) (.t 17)), aN 19 2 2, aO 20 1 19, aI 21 6, bC 22 .add 21 1, .o (.sl 23 (some Z4) (.t 20) (some (.t 22)) none none), .o (.apb 24 2 Z4 (.t 18) (.t 23)), aN 25 2 2, bF 1 25 24]) (aA 0 [aL 26 4 2, bF 4 4 26, bH 5 0] .rt)))))⟩
def Zev : ACode := (.sq (aA 0 [aI 31 10, aN 32 8 2, aO 33 1 32, aJ 34 33, aK 35 .lss 31 34] (aB 35 .sk (.xt 0))) (.sq (.bl 1 (.sq (.rg 1 true [aI 38 9, aL 39 4 8, aN 40 8 2, aO 41 1 40, aI 42 10, aM 43 Z4 41 42, aL 44 3 43, .o (.callx (some 45) 0 1 Xa [(.t 39), (.t 44)]), aP 46 1 0 Zw 38 45, aR 47 46]) (aB 47 (aA 0 [aL 48 4 2, bF 4 4 48, bH 5 2] .rt) .sk))) (.rg 0 false [aI 36 10, bC 37 .add 36 1, aI 10 37])))
def Z95 : ACode := Zev
theorem Znj : aG Z95 Zev := fun _ _ => rfl
def Zbz : AFn := ⟨2, [.cell 4 4 true, .t 5], (aA 6 [bR 2 0 Z1 4 0, bR 3 1 Z3 10 1, .o (.al 4 2 Z1 [(.lit Z0 []), (.lit Z3 []), (.lit Z4 []), cQ]), bH 5 0] (.sq (.rg 2 true [aL 12 4 2, .o (.callx (some 13) 0 1 Yl [(.t 12)]), aL 14 10 3, aP 15 1 1 Z03 13 14, aI 11 15, aQ 16 11 0, aQ 17 11 1, aI 6 16, aI 7 17]) (.sq (aA 0 [aI 18 7, aR 19 18] (aB 19 (aA 0 [aL 20 4 2, bF 4 4 20, bH 5 1] .rt) .sk)) (aA 4 [aL 21 4 2, bX 22 Vp 21, .o (.al 8 0 Z1 [(.lit Z0 []), (.lit Z3 []), (.lit Z4 []), cQ]), bF 4 8 22] (aA 2 [aN 23 8 1, aO 24 1 23, aL 25 10 3, bV 26 0 Z3 10 25, bW 27 1 Z3 24 26, aN 28 8 1, bF 1 28 27] (aA 1 [aL 29 4 8, .o (.callx (some 30) 0 1 Yl [(.t 29)]), aI 9 30] (.sq (aA 0 [bH 10 0] (.bl 0 (.lp [2, 4, 8, 9, 10] Z95))) (.sq (aA 0 [aN 49 2 1, aO 50 1 49, aJ 51 50, bC 52 .geq 51 8] (aB 52 (aA 0 [aL 53 4 2, bF 4 4 53, bH 5 4] .rt) .sk)) (aA 0 [aL 54 4 8, bF 4 4 54, bH 5 0] .rt)))))))))⟩
def Z07 : AFn := ⟨2, [.cell 4 10 true], (aA 1 [.o (.al 4 0 Z3 [cQ, cR, cR, cR, cQ, cS, cS, cQ, cQ, cR])] (aA 1 [aI 8 0, .o (.call (some 9) 0 1 Z02 []), cD 10 Zai 8 9, aI 5 10] (.sq (aA 0 [aI 11 1, aJ 12 11, bC 13 .gtr 12 0, aI 14 13, bK 14 15 0, cK 14 16 Z19 15 6, cE 14 17 .gtr 16 0, bQ 18 14 17] (aB 18 (.rg 0 false [aI 19 1, aI 20 0, aI 21 1, aJ 22 21, cD 23 Z19 20 22, aM 24 Z0 19 23, aN 25 24 0, aO 26 1 25, aI 5 26]) .sk)) (aA 1 [aI 27 0, cH 28 Z19 27 4, .o (.bin 29 .add (cP 1) (.t 28)), aI 30 5, .o (.bld 31 0 [cQ, cR, cR, cR, cQ, cS, cS, cQ, cQ, cR] [(0, 1, (.t 29)), (1, 1, (.t 30))]), .o (.al 6 0 Z3 [cQ, cR, cR, cR, cQ, cS, cS, cQ, cQ, cR]), bF 10 6 31] (.sq (aA 0 [aN 32 6 0, aO 33 1 32] (.bl 0 (aA 0 [bC 35 .eql 33 1, aI 34 35] (aB 34 (aA 0 [aN 36 6 1, .o (.st 1 (.t 36) (.k cR))] (aA 1 [aI 37 0, aI 38 0, .o (.call (some 39) 0 1 Z02 []), cD 40 Zai 38 39, cD 41 Z3c 37 40, aN 42 6 3, bF 7 42 41] (aA 0 [aN 43 6 3, aN 44 43 2, aO 45 1 44, aI 46 45, bM 46 47 6 3, bM 46 48 47 4, bM 46 49 48 0, bN 46 50 1 49, cE 46 51 .eql 50 0, bQ 52 46 51, aI 53 52, bK 53 54 0, cK 53 55 Z19 54 4, cE 53 56 .gtr 55 0, bQ 57 53 56] (aB 57 (.rg 0 false [aN 58 6 3, aN 59 58 2, .o (.st 1 (.t 59) (.k cS))]) .sk)))) (aA 0 [bC 61 .eql 33 3, aI 60 61] (aB 60 (.rg 1 false [aI 62 0, .o (.bsl 63 0 Wu 1 [(.k (.v (.string ⟨#[97]⟩))), (.k (.v (.string ⟨#[98]⟩))), (.k (.v (.string ⟨#[99]⟩))), (.k (.v (.string ⟨#[100]⟩))), (.k (.v (.string ⟨#[101]⟩))), (.k (.v (.string ⟨#[120]⟩))), (.k (.v (.string ⟨#[121, 121]⟩)))]), cD 64 Zai 62 63, aN 65 6 2, bF 1 65 64]) (aA 0 [bC 67 .eql 33 4, aI 66 67] (aB 66 (aA 0 [aI 68 0, cH 69 Z19 68 2, .o (.bin 70 .add (cP 1) (.t 69)), aN 71 6 3, aN 72 71 1, bF 1 72 70] (aA 0 [aI 73 1, aI 74 5, aP 75 0 0 X9 73 74, aI 7 75] (aA 0 [aI 76 7, bC 77 .geq 76 0, aI 78 77, bK 78 79 0, cK 78 80 Z19 79 6, cE 78 81 .gtr 80 0, bQ 82 78 81] (aB 82 (.rg 0 false [aI 83 1, aI 84 7, aM 85 Z0 83 84, aN 86 85 1, aO 87 1 86, .o (.bin 88 .sub (cP 3) (.t 87)), aN 89 6 3, aN 90 89 1, bF 1 90 88]) .sk)))) .sk)))))))) (.sq (aA 0 [aI 91 0, cH 92 Z19 91 50] (.bl 1 (aA 0 [bC 94 .eql 92 0, aI 93 94] (aB 93 (.rg 1 false [aI 95 0, .o (.bsl 96 0 Wd 1 [(.k cQ), (cP 5), (cP (-1)), (cP 2)]), cD 97 Zcb 95 96, aN 98 6 0, bF 1 98 97]) (aA 0 [bC 100 .eql 92 1, aI 99 100] (aB 99 (.rg 1 false [aI 101 0, .o (.bsl 102 0 Wu 1 [(.k cR), (.k (.v (.string ⟨#[65]⟩))), (.k (.v (.string ⟨#[97, 98, 99, 100]⟩))), (.k (.v (.string ⟨#[97]⟩)))]), cD 103 Zai 101 102, aN 104 6 1, bF 1 104 103]) (aA 0 [bC 106 .eql 92 2, aI 105 106] (aB 105 (.rg 1 false [aI 107 0, .o (.bsl 108 0 Wu 1 [(.k (.v (.string ⟨#[113]⟩))), (.k (.v (.string ⟨#[65]⟩))), (.k (.v (.string ⟨#[97, 98, 99, 100]⟩)))]), cD 109 Zai 107 108, aN 110 6 2, bF 1 110 109]) (aA 0 [bC 112 .eql 92 3, aI 111 112] (aB 111 (.rg 1 false [aI 113 0, .o (.bsl 114 0 Wd 1 [(.k cQ), (cP 3), (cP 1)]), cD 115 Zcb 113 114, aN 116 6 3, aN 117 116 1, bF 1 117 115]) (aA 0 [bC 119 .eql 92 4, aI 118 119] (aB 118 (.rg 0 false [aN 120 6 3, aN 121 120 2, aO 122 1 121, aR 123 122, aN 124 6 3, aN 125 124 2, bF 1 125 123]) .sk)))))))))))) (aA 0 [aL 126 10 6, bF 10 4 126] .rt)))))))⟩
def Xs : AFn := ⟨2, [.cell 4 3 true], (aA 2 [bR 2 0 Z2 3 0, .o (.al 4 1 Z2 [cQ, cQ, cR])] (aA 0 [aN 8 2 2, aO 9 1 8, bE 10 0 0 Z0j 9, aI 7 10, aQ 11 7 0, aQ 12 7 1, aI 5 11, aI 6 12] (.sq (.bl 0 (aA 0 [aL 14 3 2, bE 15 0 0 Wy 14, aR 16 15, aI 17 16, aS 17 18 1, cA 17 19 .lss 18 1, aX 20 17 19, aI 21 20, aS 21 22 1, cA 21 23 .gtr 22 2, aX 24 21 23, aI 25 24, aV 25 26 2 0, bY 25 27 1 26, cA 25 28 .eql 27 0, aX 29 25 28, aI 13 29] (aB 13 (aA 0 [.o (.bld 30 0 [cQ, cQ, cR] []), bF 3 4 30] .rt) (aA 0 [aN 32 2 0, aO 33 1 32, aI 34 1, aK 35 .eql 33 34, aI 31 35] (aB 31 (aA 0 [aL 36 3 2, bF 3 4 36] .rt) (aA 0 [aI 38 1, bC 39 .eql 38 2, aI 37 39] (aB 37 (aA 0 [aI 40 1, aN 41 2 1, aO 42 1 41, bE 43 0 0 Z0e 42, .o (.bld 44 0 [cQ, cQ, cR] [(0, 1, (.t 40)), (2, 1, (.t 43))]), bF 3 4 44] .rt) (aA 0 [aI 46 6, aI 47 46, bK 47 48 5, bJ 47 49 0 0 Z1d 48, bQ 50 47 49, aI 45 50] (aB 45 (aA 0 [aI 51 1, aI 52 5, .o (.bld 53 0 [cQ, cQ, cR] [(0, 1, (.t 51)), (1, 1, (.t 52))]), bF 3 4 53] .rt) .sk))))))))) (aA 0 [.o (.bld 54 0 [cQ, cQ, cR] []), bF 3 4 54] .rt))))⟩
def Zu1 : AFn := ⟨1, [.t 2], (aA 1 [bS 2 0 Z0] (aA 0 [aI 3 0, aI 4 0, aJ 5 4, aI 6 0, aJ 7 6, .o (.sl 8 (some Z0) (.t 3) none (some (.t 5)) (some (.t 7))), aI 2 8] .rt))⟩
def Zeu : AFn := ⟨1, [.t 2], (aA 1 [bR 1 0 Z3 10 0, bB 2] (aA 1 [aN 4 1 0, aO 5 1 4, .o (.bld 6 0 [cQ, cR, cR, cR, cQ, cS, cS, cQ, cQ, cR] [(0, 1, (.t 5))]), .o (.al 3 0 Z3 [cQ, cR, cR, cR, cQ, cS, cS, cQ, cQ, cR]), bF 10 3 6] (.sq (aA 0 [aN 7 1 0, aO 8 1 7] (.bl 0 (aA 0 [bC 10 .eql 8 1, aI 9 10] (aB 9 (.rg 0 false [aN 11 1 3, aL 12 7 11, aN 13 3 3, bF 7 13 12]) (aA 0 [bC 15 .eql 8 2, aI 14 15] (aB 14 (.rg 0 false [aN 16 1 1, aO 17 1 16, aN 18 3 1, bF 1 18 17]) (aA 0 [bC 20 .eql 8 3, aI 19 20] (aB 19 (.rgs 0 [((.t 23), (.t 25))] [aN 21 1 1, aO 22 1 21, aN 23 1 2, aO 24 1 23, aN 25 3 1, bF 1 25 22, aN 26 3 2, bF 1 26 24]) (aA 0 [bC 28 .eql 8 4, aI 27 28] (aB 27 (.rgs 0 [((.t 32), (.t 34))] [aN 29 1 1, aO 30 1 29, aN 31 1 3, aN 32 31 1, aO 33 1 32, aN 34 3 1, bF 1 34 30, aN 35 3 3, aN 36 35 1, bF 1 36 33]) (aA 0 [bB 2] .rt))))))))))) (aA 0 [aL 37 10 3, aL 38 10 1, cO 39 [0, 1, 1, 1, 0, 2, 2, 0, 0, 1] 37 38, aI 2 39] .rt))))⟩
def Zvb : AFn := ⟨3, [.t 6], (aA 1 [bS 6 0 Z0] (aA 0 [aI 8 0, aI 9 1, aI 10 2, aI 11 0, aJ 12 11, .o (.sl 13 (some Z0) (.t 8) (some (.t 9)) (some (.t 10)) (some (.t 12)))] (.sq (aA 0 [aI 14 1, aI 15 2, aK 16 .eql 14 15] (aB 16 (aA 0 [aI 17 0, aI 6 17] .rt) .sk)) (aA 0 [aI 18 0, aJ 19 18, aI 7 19] (.sq (.rg 1 true [aI 20 0, aI 21 1, .o (.sl 22 (some Z0) (.t 20) none (some (.t 21)) none), aI 23 0, aI 24 2, .o (.sl 25 (some Z0) (.t 23) (some (.t 24)) none none), bW 26 0 Z0 22 25, aI 0 26]) (aA 0 [aI 27 0, aI 28 0, aJ 29 28, aI 30 7, .o (.sl 31 (some Z0) (.t 27) (some (.t 29)) (some (.t 30)) none), .o (.clr Z0 [cR, cQ, cS, cS, cQ, cQ, cR] (.t 31))] (aA 0 [aI 32 0, aI 6 32] .rt)))))))⟩
def Vn : AFn := ⟨2, [.cell 4 3 true], (aA 2 [bR 2 0 Z2 3 0, .o (.al 4 1 Z2 [cQ, cQ, cR])] (.sq (.bl 0 (aA 0 [aL 6 3 2, bE 7 0 0 Wx 6, aR 8 7, aI 9 8, aV 9 10 2 0, bY 9 11 1 10, cA 9 12 .eql 11 0, aX 13 9 12, aI 14 13, aS 14 15 1, .g 14 false (.call (some 16) 0 0 Wt [(.t 15), (cP 1), (cP 2)]), bA 14 17 16, aX 18 14 17, aI 5 18] (aB 5 (aA 0 [.o (.bld 19 0 [cQ, cQ, cR] []), bF 3 4 19] .rt) (aA 0 [aN 21 2 0, aO 22 1 21, aI 23 1, aK 24 .eql 22 23, aI 20 24] (aB 20 (aA 0 [aL 25 3 2, bF 3 4 25] .rt) (aA 0 [aI 27 1, bC 28 .eql 27 2, aI 26 28] (aB 26 (aA 0 [aN 29 2 1, aO 30 1 29, bE 31 0 0 V2 30, .o (.bld 32 0 [cQ, cQ, cR] [(0, 1, (cP 2)), (2, 1, (.t 31))]), bF 3 4 32] .rt) .sk))))))) (aA 0 [aN 33 2 2, aO 34 1 33, bE 35 0 0 Ys 34, bF 3 4 35] .rt)))⟩
def Zwb : AFn := ⟨1, [.t 2], (aA 1 [bS 2 0 Z2] (aA 0 [aI 3 0, aI 4 0, aJ 5 4, aI 6 0, aJ 7 6, .o (.sl 8 (some Z2) (.t 3) none (some (.t 5)) (some (.t 7))), aI 2 8] .rt))⟩
def Zui : AFn := ⟨3, [.t 6], (aA 1 [bS 6 0 Z2] (aA 0 [aI 8 0, aI 9 1, aI 10 2, aI 11 0, aJ 12 11, .o (.sl 13 (some Z2) (.t 8) (some (.t 9)) (some (.t 10)) (some (.t 12)))] (.sq (aA 0 [aI 14 1, aI 15 2, aK 16 .eql 14 15] (aB 16 (aA 0 [aI 17 0, aI 6 17] .rt) .sk)) (aA 0 [aI 18 0, aJ 19 18, aI 7 19] (.sq (.rg 1 true [aI 20 0, aI 21 1, .o (.sl 22 (some Z2) (.t 20) none (some (.t 21)) none), aI 23 0, aI 24 2, .o (.sl 25 (some Z2) (.t 23) (some (.t 24)) none none), bW 26 0 Z2 22 25, aI 0 26]) (aA 0 [aI 27 0, aI 28 0, aJ 29 28, aI 30 7, .o (.sl 31 (some Z2) (.t 27) (some (.t 29)) (some (.t 30)) none), .o (.clr Z2 [cQ, cQ, cR] (.t 31))] (aA 0 [aI 32 0, aI 6 32] .rt)))))))⟩
def Z8x : AFn := ⟨1, [.t 2], (aA 0 [bB 2] (aA 0 [aI 3 0, bC 4 .geq 3 (-999), aI 5 4, bK 5 6 0, cE 5 7 .leq 6 999, bQ 8 5 7, aI 2 8] .rt))⟩
def Z1u : ACode := (.sq (aA 0 [aI 4 3, aI 5 0, .o (.len 6 true (.t 5)), aK 7 .lss 4 6] (aB 7 .sk (.xt 0))) (.sq (.bl 1 (aA 0 [aI 10 0, aI 11 3, .o (.ix 12 (.t 10) (.t 11)), .o (.bin 13 .lss (.t 12) (.k (.v (.int .u8 97)))), aI 14 13, aS 14 15 0, aS 14 16 3, .g 14 false (.ix 17 (.t 15) (.t 16)), .g 14 false (.bin 18 .gtr (.t 17) (.k (.v (.int .u8 122)))), aX 19 14 18, aI 20 19, bK 20 21 0, bK 20 22 3, .g 20 true (.ix 23 (.t 21) (.t 22)), .g 20 true (.bin 24 .lss (.t 23) (.k (.v (.int .u8 48)))), bK 20 25 24, aS 25 26 0, aS 25 27 3, .g 25 false (.ix 28 (.t 26) (.t 27)), .g 25 false (.bin 29 .gtr (.t 28) (.k (.v (.int .u8 57)))), bP 20 30 25 29, bQ 31 20 30, aI 32 31, bK 32 33 0, bK 32 34 3, .g 32 true (.ix 35 (.t 33) (.t 34)), .g 32 true (.bin 36 .neq (.t 35) (.k (.v (.int .u8 45)))), bQ 37 32 36] (aB 37 (aA 0 [bB 2] .rt) .sk))) (.rg 0 false [aI 8 3, bC 9 .add 8 1, aI 3 9])))
def Z51 : ACode := Z1u
theorem Z8o : aG Z51 Z1u := fun _ _ => rfl
def Z7p : AFn := ⟨1, [.t 2], (aA 0 [bB 2] (.sq (aA 0 [bH 3 0] (.bl 0 (.lp [0, 3] Z51))) (aA 0 [aI 38 0, .o (.len 39 true (.t 38)), bC 40 .leq 39 4, aI 2 40] .rt)))⟩
def Z1j : ACode := (.sq (aA 0 [aI 4 3, aI 5 0, .o (.len 6 true (.t 5)), aK 7 .lss 4 6] (aB 7 .sk (.xt 0))) (.sq (.bl 1 (aA 0 [aI 10 0, aI 11 3, .o (.ix 12 (.t 10) (.t 11)), .o (.bin 13 .lss (.t 12) (.k (.v (.int .u8 97)))), aI 14 13, aS 14 15 0, aS 14 16 3, .g 14 false (.ix 17 (.t 15) (.t 16)), .g 14 false (.bin 18 .gtr (.t 17) (.k (.v (.int .u8 122)))), aX 19 14 18] (aB 19 (aA 0 [bB 2] .rt) .sk))) (.rg 0 false [aI 8 3, bC 9 .add 8 1, aI 3 9])))
def Z54 : ACode := Z1j
theorem Z8n : aG Z54 Z1j := fun _ _ => rfl
def Z4h : AFn := ⟨1, [.t 2], (aA 0 [bB 2] (.sq (aA 0 [bH 3 0] (.bl 0 (.lp [0, 3] Z54))) (aA 0 [aI 20 0, .o (.len 21 true (.t 20)), bC 22 .geq 21 1, aI 23 22, bK 23 24 0, .g 23 true (.len 25 true (.t 24)), cE 23 26 .leq 25 3, bQ 27 23 26, aI 2 27] .rt)))⟩
def Z4k : AFn := ⟨1, [.cell 2 7 true], (aA 2 [bR 1 0 Z3 10 0, .o (.al 2 1 Z0 [cR, cQ, cS, cS, cQ, cQ, cR])] (.sq (aA 0 [aN 3 1 0, aO 4 1 3, bC 5 .eql 4 4] (aB 5 (aA 0 [aN 6 1 3, aN 7 6 1, aO 8 1 7, .o (.bld 9 0 [cR, cQ, cS, cS, cQ, cQ, cR] [(1, 1, (.t 8))]), bF 7 2 9] .rt) .sk)) (aA 0 [.o (.bld 10 0 [cR, cQ, cS, cS, cQ, cQ, cR] []), bF 7 2 10] .rt)))⟩
def Z8m : AFn := ⟨2, [.t 4], (aA 1 [bS 4 0 Z0] (.sq (.rg 3 true [cC 5 0 Z0 7, aI 6 0, aI 7 1, .o (.sl 8 (some Z0) (.t 6) none (some (.t 7)) none), bW 9 1 Z0 5 8, aI 10 0, aI 11 1, bC 12 .add 11 1, .o (.sl 13 (some Z0) (.t 10) (some (.t 12)) none none), bW 14 2 Z0 9 13, aI 4 14]) .rt))⟩
def Vc : ACode := (.sq (aA 0 [aI 39 6, aI 40 0, .o (.len 41 true (.t 40)), aK 42 .lss 39 41] (aB 42 .sk (.xt 0))) (.sq (.bl 1 (.sq (aA 0 [aI 45 0, aI 46 6, .o (.ix 47 (.t 45) (.t 46)), .o (.bin 48 .lss (.t 47) (.k (.v (.int .u8 48)))), aI 49 48, aS 49 50 0, aS 49 51 6, .g 49 false (.ix 52 (.t 50) (.t 51)), .g 49 false (.bin 53 .gtr (.t 52) (.k (.v (.int .u8 57)))), aX 54 49 53] (aB 54 (aA 0 [bH 2 0, bB 3] .rt) .sk)) (.rg 0 false [aI 55 5, bC 56 .mul 55 10, aI 57 0, aI 58 6, .o (.ix 59 (.t 57) (.t 58)), .o (.bin 60 .sub (.t 59) (.k (.v (.int .u8 48)))), .o (.cv 61 .i64 (.t 60)), aK 62 .add 56 61, aI 5 62]))) (.rg 0 false [aI 43 6, bC 44 .add 43 1, aI 6 44])))
def Z25 : ACode := Vc
theorem Z1p : aG Z25 Vc := fun _ _ => rfl
def Zbg : AFn := ⟨1, [.t 2, .t 3], (aA 0 [bH 2 0, bB 3] (aA 0 [aI 7 0, .o (.len 8 true (.t 7)), bC 9 .gtr 8 0, aI 10 9, bK 10 11 0, .g 10 true (.ix 12 (.t 11) (.k cQ)), .g 10 true (.bin 13 .eql (.t 12) (.k (.v (.int .u8 45)))), bQ 14 10 13, aI 4 14] (.sq (aA 0 [aI 15 4] (aB 15 (.rg 0 false [aI 16 0, .o (.sl 17 none (.t 16) (some (cP 1)) none none), aI 0 17]) .sk)) (.sq (aA 0 [aI 18 0, .o (.len 19 true (.t 18)), bC 20 .eql 19 0, aI 21 20, aS 21 22 0, .g 21 false (.len 23 true (.t 22)), cA 21 24 .gtr 23 17, aX 25 21 24, aI 26 25, aS 26 27 0, .g 26 false (.ix 28 (.t 27) (.k cQ)), .g 26 false (.bin 29 .eql (.t 28) (.k (.v (.int .u8 48)))), aS 26 30 29, bK 30 31 0, .g 30 true (.len 32 true (.t 31)), cE 30 33 .gtr 32 1, bK 30 34 33, aS 34 35 4, bP 30 36 34 35, cF 26 37 30 36, aX 38 26 37] (aB 38 (aA 0 [bH 2 0, bB 3] .rt) .sk)) (aA 0 [bH 5 0] (.sq (aA 0 [bH 6 0] (.bl 0 (.lp [0, 4, 5, 6] Z25))) (.sq (aA 0 [aI 63 4] (aB 63 (.rg 0 false [aI 64 5, .o (.un 65 .neg (.t 64)), aI 5 65]) .sk)) (aA 0 [aI 66 5, aI 2 66, bD 3] .rt))))))))⟩
def Z22 : ACode := (.sq (aA 0 [aI 12 0, bC 13 .gtr 12 9] (aB 13 .sk (.xt 0))) (.bl 1 (aA 1 [aI 14 0, bC 15 .rem 14 10, .o (.bin 16 .add (cP 48) (.t 15)), .o (.cv 17 .u8 (.t 16)), bV 18 0 Vf 1 17, .o (.cbs 19 Vf (.t 18)), aI 20 3, aK 21 .add 19 20, aI 3 21] (.rg 0 false [aI 22 0, bC 23 .quo 22 10, aI 0 23]))))
def Z5a : ACode := Z22
theorem Z91 : aG Z5a Z22 := fun _ _ => rfl
def Z4q : AFn := ⟨1, [.t 2], (aA 0 [.o (.mv 2 (.k cR))] (.sq (aA 0 [aI 4 0, bC 5 .lss 4 (-9223372036854775807)] (aB 5 (aA 0 [.o (.mv 2 (.k (.v (.string ⟨#[45, 57, 50, 50, 51, 51, 55, 50, 48, 51, 54, 56, 53, 52, 55, 55, 53, 56, 48, 56]⟩))))] .rt) .sk)) (.sq (aA 0 [aI 6 0, bC 7 .lss 6 0] (aB 7 (aA 0 [aI 8 0, .o (.un 9 .neg (.t 8)), bE 10 0 0 Z0e 9, .o (.bin 11 .add (.k (.v (.string ⟨#[45]⟩))) (.t 10)), aI 2 11] .rt) .sk)) (aA 0 [.o (.mv 3 (.k cR))] (.sq (.bl 0 (.lp [0, 3] Z5a)) (aA 1 [aI 24 0, .o (.bin 25 .add (cP 48) (.t 24)), .o (.cv 26 .u8 (.t 25)), bV 27 0 Vf 1 26, .o (.cbs 28 Vf (.t 27)), aI 29 3, aK 30 .add 28 29, aI 2 30] .rt))))))⟩
def Z0f : ACode := (.sq (aA 0 [aI 16 4, aN 17 1 2, aO 18 1 17, aJ 19 18, aK 20 .lss 16 19] (aB 20 .sk (.xt 0))) (.sq (.bl 1 (.rgs 5 [((.t 23), (.t 37)), ((.t 25), (.t 37)), ((.t 29), (.t 37)), ((.t 31), (.t 37)), ((.t 35), (.t 37))] [aN 23 3 2, aO 24 1 23, aN 25 1 2, aO 26 1 25, aI 27 4, aM 28 Z4 26 27, aN 29 28 0, aO 30 1 29, aN 31 1 2, aO 32 1 31, aI 33 4, aM 34 Z4 32 33, aN 35 34 1, aO 36 1 35, cC 37 0 Z2 3, aN 38 1 2, aO 39 1 38, aI 40 4, aM 41 Z4 39 40, aN 42 41 2, aO 43 1 42, bW 44 1 Z2 37 43, .o (.bld 45 2 [cQ, cQ, (.lit Z2 [])] [(0, 1, (.t 30)), (1, 1, (.t 36)), (2, 1, (.t 44))]), .o (.bsb 46 3 Z4 3 [(.t 45)]), .o (.apb 47 4 Z4 (.t 24) (.t 46)), aN 48 3 2, bF 1 48 47])) (.rg 0 false [aI 21 4, bC 22 .add 21 1, aI 4 22])))
def We : ACode := Z0f
theorem Z70 : aG We Z0f := fun _ _ => rfl
def Vi : AFn := ⟨1, [.cell 2 4 true], (aA 5 [bR 1 0 Z1 4 0, .o (.al 2 1 Z1 [(.lit Z0 []), (.lit Z3 []), (.lit Z4 []), cQ])] (.sq (.rgs 11 [((.t 10), (.t 5)), ((.t 13), (.t 5)), ((.t 13), (.t 9))] [cC 5 0 Z0 7, aN 6 1 0, aO 7 1 6, bW 8 1 Z0 5 7, cC 9 2 Z3 10, aN 10 1 1, aO 11 1 10, bW 12 3 Z3 9 11, aN 13 1 3, aO 14 1 13, .o (.bld 15 4 [(.lit Z0 []), (.lit Z3 []), (.lit Z4 []), cQ] [(0, 1, (.t 8)), (1, 1, (.t 12)), (3, 1, (.t 14))]), .o (.al 3 7 Z1 [(.lit Z0 []), (.lit Z3 []), (.lit Z4 []), cQ]), bF 4 3 15]) (.sq (aA 0 [bH 4 0] (.bl 0 (.lp [1, 2, 3, 4] We))) (aA 0 [aL 49 4 3, bF 4 2 49] .rt))))⟩
def X0 : AFn := ⟨3, [.cell 6 4 true, .t 7], (aA 5 [bR 3 0 Z1 4 0, .o (.al 6 1 Z1 [(.lit Z0 []), (.lit Z3 []), (.lit Z4 []), cQ]), bH 7 0] (aA 0 [aL 13 4 3, aI 14 1, .o (.callx (some 15) 0 0 Z57 [(.t 13), (.t 14)]), aI 8 15] (.sq (aA 0 [aI 16 8, bC 17 .lss 16 0] (aB 17 (aA 0 [aL 18 4 3, bF 4 6 18, bH 7 5] .rt) .sk)) (.sq (.rg 3 true [aL 20 4 3, .o (.callx (some 21) 0 1 Yl [(.t 20)]), aL 22 4 3, aN 23 3 2, aO 24 1 23, aI 25 8, aM 26 Z4 24 25, aL 27 3 26, .o (.callx (some 28) 1 1 Xa [(.t 22), (.t 27)]), aI 29 2, cG 30 2 1 Z1m 21 28 29, aI 19 30, aQ 31 19 0, aQ 32 19 1, aI 9 31, aI 10 32]) (.sq (aA 0 [aI 33 10, aR 34 33] (aB 34 (aA 0 [aL 35 4 3, bF 4 6 35, bH 7 1] .rt) .sk)) (aA 3 [aI 36 1, aN 37 3 1, aO 38 1 37, aJ 39 38, aI 40 9, .o (.bld 41 0 [cQ, cQ, (.lit Z2 [])] [(0, 1, (.t 36)), (1, 1, (.t 39)), (2, 1, (.t 40))]), .o (.al 11 1 Z4 [cQ, cQ, (.lit Z2 [])]), bF 3 11 41] (aA 0 [aL 42 4 3, aL 43 3 11, .o (.callx (some 44) 0 0 Z1t [(.t 42), (.t 43)]), aI 12 44] (.sq (aA 0 [aI 45 12, bC 46 .eql 45 0] (aB 46 (.rg 0 false [aN 47 3 2, aO 48 1 47, aI 49 8, aL 50 3 11, aM 51 Z4 48 49, bF 3 51 50]) .sk)) (aA 0 [aL 52 4 3, aI 53 12, bF 4 6 52, aI 7 53] .rt)))))))))⟩
def Xf : AFn := ⟨2, [.cell 4 4 true], (aA 5 [bR 3 0 Z1 4 1, .o (.al 4 1 Z1 [(.lit Z0 []), (.lit Z3 []), (.lit Z4 []), cQ])] (aA 1 [aL 7 4 3, .o (.callx (some 8) 0 1 Yl [(.t 7)]), aI 5 8] (aA 0 [aI 9 0, aN 10 3 3, aO 11 1 10, .o (.call (some 12) 0 0 Z5z [(cP 1), (.t 11)]), cD 13 Z19 9 12, bC 14 .add 13 1, aI 6 14] (.sq (aA 0 [aI 15 0, cH 16 Z19 15 8] (.bl 0 (aA 0 [bC 26 .eql 16 0, aI 25 26] (aB 25 (.rg 0 false [aL 28 4 3, aI 29 6, cD 30 Z5r 28 29, aI 27 30, aQ 31 27 0, aQ 32 27 1, bF 4 3 31]) (.sq (aA 0 [bC 34 .eql 16 1, aI 33 34] (aB 33 .sk (.rg 0 false [bC 35 .eql 16 2, aI 33 35]))) (aB 33 (.rgk 0 [((.t 3), (.k .bad))] [3] [aL 37 4 3, aI 38 6, aI 39 0, aI 40 5, cD 41 Z1l 39 40, .o (.dcf (some 42) Z39 [(.t 37), (.t 38), (.t 41)]), aI 36 42, aQ 43 36 0, aQ 44 36 1, bF 4 3 43]) (aA 0 [bC 46 .eql 16 3, aI 45 46] (aB 45 (.rgk 0 [((.t 3), (.k .bad))] [3] [aL 48 4 3, aI 49 0, aI 50 5, cD 51 Zqa 49 50, cD 52 Zz8 48 51, aI 47 52, aQ 53 47 0, aQ 54 47 1, bF 4 3 53]) (.rgk 0 [((.t 3), (.k .bad))] [3] [aL 18 4 3, aI 19 0, aI 20 5, cD 21 Z1l 19 20, cD 22 Z5u 18 21, aI 17 22, aQ 23 17 0, aQ 24 17 1, bF 4 3 23]))))))))) (aA 0 [aL 55 4 3, bF 4 4 55] .rt)))))⟩
def fns : List (Nat × AFn) := [(Yan, Y7c), (Z4c, Z7a), (Y91, Yak), (Yao, Yav), (Z0u, Xn), (Yam, Ya9), (Z32, Z69), (Z2v, Z0s), (Yal, Ycn), (Z2p, Z0r), (Zym, Zrt), (V7, Z6h), (Zzh, Y64), (Y1s, Y51), (X9, Z7i), (Yl, Z79), (Z2z, Z2m), (Z1q, Z1x), (Z4a, Z7h), (Z19, Zs3), (Xa, Z8i), (Zai, Y5e), (Z02, Z6j), (Vs, Z7u), (V5, Wa), (Zmf, Y4u), (Zfy, Y59), (Zzz, Y1z), (W7, Z2n), (Xu, Z8b), (Zcb, Y05), (Zse, Zxm), (Zzf, Y06), (Z0y, Z2r), (Z5i, Z8k), (Z4f, Z1s), (Y1k, Y5c), (Z1l, Z0i), (Z5u, Yo), (Z60, Z8v), (Zyt, Y52), (Zyp, Y5t), (Z5t, Z98), (Zup, Y6g), (Z5x, Z5y), (Ztj, Y4h), (Z2u, Z67), (Yg, Z6a), (Z57, Z7k), (Z43, Zo), (Z2w, V6), (Zyx, Y0n), (Z4d, Z7n), (Ww, Z0g), (Xo, Z21), (Y25, Y21), (Wt, Zfe), (Wc, Z2y), (Xg, Z36), (Wx, Z92), (Zz4, Y6u), (Z2o, Z64), (Z62, Z94), (Y0f, Y13), (V0, Z63), (W8, Z35), (Z03, Z2t), (Zw, Z1h), (Zz2, Y0x), (Zp5, Y4y), (Z1m, Z4i), (Z48, Z75), (Z1t, Z23), (Y3j, Y3y), (Z46, Z7g), (Vq, Zu), (Y1p, Y3q), (Z31, Z6i), (Z5p, Z1f), (Zf4, Y3t), (X8, Y9), (Zts, Y68), (Zsl, Y47), (Zzy, Zru), (Wy, Z9d), (Z4p, Z44), (Z5j, Z96), (Yc, Yw), (Z3c, Z5n), (Z5z, Z5l), (Z5r, Z0c), (Zz8, Zbz), (Zqa, Z07), (Z1i, Xs), (Zwt, Zu1), (Zhe, Zeu), (Zr9, Zvb), (Z1e, Vn), (Zu0, Zwb), (Zqn, Zui), (Z1d, Z8x), (Z47, Z7p), (Z4j, Z4h), (Z0k, Z4k), (Z3f, Z8m), (Z0j, Zbg), (Z0e, Z4q)]
def Zny : List (Nat × AFn) := [(Vp, Vi)]
def Zth : List (Nat × AFn) := [(Z39, X0), (Z3h, Xf)]
def Y2h : List Nat := [Zob]
def Y3e : List (Nat × (List A -> Option (List A))) := [(Zrl, Z8h Z5), (Zgd, Z8h Z0), (Zhb, Z8h Z2), (V2, Zt4), (Z0x, Zm6)]
def Zak {V : Type} (f : Nat) : List (Nat × V) -> Option V
 | [] => none
 | x :: xs => if f = x.1 then some x.2 else Zak f xs
def Y7d : List (Nat × Nat) := [(Zza, Z5)]
def Y6t : List Nat := [Ycc, Zly, Ys]
class Pr0 where
 pg : Prog
 fn : ∀ f, pg.fn f = Zak f fns
 ext : ∀ f, f ∉ Y6t -> pg.ext f = Zak f Y3e
 ins : ∀ f, pg.ins f = Zak f Y7d
 dn : ∀ f, pg.dn f = Zak f Zny
 hx : ∀ f, f ∉ Y2h -> pg.hx f = none
 fl : ∀ f, pg.fl f = Zak f Zth
abbrev pr [Pr0] : Prog := Pr0.pg
variable [Pr0]
theorem Z3n {f : Nat} {a : AFn} (h : Zak f Zny = none) (k : Zak f fns = some a) : pr.dfn f = some a := by unfold Prog.dfn; rw [Pr0.dn f, h]; exact (Pr0.fn f).trans k
theorem Ybo {f : Nat} {a : AFn} (h : Zak f Zny = some a) : pr.dfn f = some a := by unfold Prog.dfn; rw [Pr0.dn f, h]
theorem Yba (D : Nat) (as : List A) (h : Hp) (n : Nat) : dcl pr (D + 1) Zza as h n = Zxg Z5 as h n := Y5y ((Pr0.ins Zza).trans rfl)
abbrev cT (t : Nat) (r : List (List A)) : Option Blk := some ⟨t, r, true, true⟩
abbrev cU (t : Nat) (r : List (List A)) : Option Blk := some ⟨t, r, true, false⟩
abbrev cV (t b n : Nat) (e : Bool) : A := .ref t b 0 n n e
attribute [go_sem] cT cU cV
noncomputable abbrev aH (D : Nat) : Env := ⟨den pr D, dcl pr D, dfl pr D⟩
attribute [go_sem] aH
abbrev aC (f : Nat) (c : AFn) : Prop := ∀ (D : Nat) (as : List A), den pr (D + 1) f as = Zbk (Zj ⟨den pr D, dcl pr D, dfl pr D⟩ c.code ⟨slots as, fun _ => none, 0, 0⟩) (res c.res)
theorem aD {f : Nat} {c : AFn} (h : f ∉ Y6t) (h1 : Zak f Y3e = none) (h2 : Zak f fns = some c) : aC f c := fun D as => Yad ((Pr0.ext f h).trans h1) ((Pr0.fn f).trans h2)
abbrev aE (f : Nat) (c : AFn) : Prop := ∀ (D : Nat) (as : List A) (h : Hp) (n : Nat), dcl pr (D + 1) f as h n = Zbk (Zj ⟨den pr D, dcl pr D, dfl pr D⟩ c.code ⟨slots as, h, n, n⟩) (Zo9 c.res)
theorem aF {f : Nat} {c : AFn} (h : Zak f Y7d = none) (h1 : f ∉ Y2h) (h2 : pr.dfn f = some c) : aE f c := fun D as h' n => Y9h ((Pr0.ins f).trans h) (Pr0.hx f h1) h2
theorem Ydw : aC Yan Y7c := aD (by decide) rfl rfl
theorem Zj2 : aC Z4c Z7a := aD (by decide) rfl rfl
theorem Ye2 : aC Y91 Yak := aD (by decide) rfl rfl
theorem Ye9 : aC Yao Yav := aD (by decide) rfl rfl
theorem Zg9 : aC Z0u Xn := aD (by decide) rfl rfl
theorem Ye4 : aC Yam Ya9 := aD (by decide) rfl rfl
theorem Zg8 : aC Z32 Z69 := aD (by decide) rfl rfl
theorem Zg3 : aC Z2v Z0s := aD (by decide) rfl rfl
theorem Yep : aC Yal Ycn := aD (by decide) rfl rfl
theorem Zga : aC Z2p Z0r := aD (by decide) rfl rfl
theorem Yd3 : aC Zym Zrt := aD (by decide) rfl rfl
theorem Zft : aC V7 Z6h := aD (by decide) rfl rfl
theorem Yc4 : aC Zzh Y64 := aD (by decide) rfl rfl
theorem Ycl : aC Y1s Y51 := aD (by decide) rfl rfl
theorem Zou : aC X9 Z7i := aD (by decide) rfl rfl
theorem Zjl : aC Yl Z79 := aD (by decide) rfl rfl
theorem Zfs : aE Z2z Z2m := aF rfl (by decide) (Z3n rfl rfl)
theorem Zj8 : aE Z1q Z1x := aF rfl (by decide) (Z3n rfl rfl)
theorem Ziy : aC Z4a Z7h := aD (by decide) rfl rfl
theorem Y1f : aE Z19 Zs3 := aF rfl (by decide) (Z3n rfl rfl)
theorem Zmn : aC Xa Z8i := aD (by decide) rfl rfl
theorem Yc6 : aE Zai Y5e := aF rfl (by decide) (Z3n rfl rfl)
theorem Zg7 : aC Z02 Z6j := aD (by decide) rfl rfl
theorem Zia : aE Vs Z7u := aF rfl (by decide) (Z3n rfl rfl)
theorem Zgb : aC V5 Wa := aD (by decide) rfl rfl
theorem Yci : aC Zmf Y4u := aD (by decide) rfl rfl
theorem Ycg : aC Zfy Y59 := aD (by decide) rfl rfl
theorem Ya5 : aE Zzz Y1z := aF rfl (by decide) (Z3n rfl rfl)
theorem Zfz : aC W7 Z2n := aD (by decide) rfl rfl
theorem Zkh : aC Xu Z8b := aD (by decide) rfl rfl
theorem Y93 : aE Zcb Y05 := aF rfl (by decide) (Z3n rfl rfl)
theorem Ydd : aC Zse Zxm := aD (by decide) rfl rfl
theorem Ydf : aC Zzf Y06 := aD (by decide) rfl rfl
theorem Zfn : aC Z0y Z2r := aD (by decide) rfl rfl
theorem Zlr : aC Z5i Z8k := aD (by decide) rfl rfl
theorem Zim : aE Z4f Z1s := aF rfl (by decide) (Z3n rfl rfl)
theorem Yco : aC Y1k Y5c := aD (by decide) rfl rfl
theorem Zj0 : aE Z1l Z0i := aF rfl (by decide) (Z3n rfl rfl)
theorem Zla : aE Z5u Yo := aF rfl (by decide) (Z3n rfl rfl)
theorem Zky : aC Z60 Z8v := aD (by decide) rfl rfl
theorem Ycv : aC Zyt Y52 := aD (by decide) rfl rfl
theorem Ybh : aC Zyp Y5t := aD (by decide) rfl rfl
theorem Zln : aC Z5t Z98 := aD (by decide) rfl rfl
theorem Ycx : aC Zup Y6g := aD (by decide) rfl rfl
theorem Zmj : aC Z5x Z5y := aD (by decide) rfl rfl
theorem Ybv : aC Ztj Y4h := aD (by decide) rfl rfl
theorem Zfv : aC Z2u Z67 := aD (by decide) rfl rfl
theorem Zg6 : aC Yg Z6a := aD (by decide) rfl rfl
theorem Zof : aC Z57 Z7k := aD (by decide) rfl rfl
theorem Zhx : aE Z43 Zo := aF rfl (by decide) (Z3n rfl rfl)
theorem Zfw : aE Z2w V6 := aF rfl (by decide) (Z3n rfl rfl)
theorem Yc2 : aC Zyx Y0n := aD (by decide) rfl rfl
theorem Zhu : aC Z4d Z7n := aD (by decide) rfl rfl
theorem Z42 : aE Ww Z0g := aF rfl (by decide) (Z3n rfl rfl)
theorem Z7v : aE Xo Z21 := aF rfl (by decide) (Z3n rfl rfl)
theorem Yay : aC Y25 Y21 := aD (by decide) rfl rfl
theorem Zwh : aC Wt Zfe := aD (by decide) rfl rfl
theorem Zg4 : aC Wc Z2y := aD (by decide) rfl rfl
theorem Zmr : aC Xg Z36 := aD (by decide) rfl rfl
theorem Zlj : aC Wx Z92 := aD (by decide) rfl rfl
theorem Yd4 : aC Zz4 Y6u := aD (by decide) rfl rfl
theorem Zg5 : aC Z2o Z64 := aD (by decide) rfl rfl
theorem Zmk : aC Z62 Z94 := aD (by decide) rfl rfl
theorem Yce : aC Y0f Y13 := aD (by decide) rfl rfl
theorem Zfo : aC V0 Z63 := aD (by decide) rfl rfl
theorem Zfq : aC W8 Z35 := aD (by decide) rfl rfl
theorem Zfp : aC Z03 Z2t := aD (by decide) rfl rfl
theorem Zkk : aC Zw Z1h := aD (by decide) rfl rfl
theorem Ydg : aC Zz2 Y0x := aD (by decide) rfl rfl
theorem Ybr : aC Zp5 Y4y := aD (by decide) rfl rfl
theorem Zif : aC Z1m Z4i := aD (by decide) rfl rfl
theorem Zjv : aC Z48 Z75 := aD (by decide) rfl rfl
theorem Zi3 : aC Z1t Z23 := aD (by decide) rfl rfl
theorem Ycm : aE Y3j Y3y := aF rfl (by decide) (Z3n rfl rfl)
theorem Zhv : aC Z46 Z7g := aD (by decide) rfl rfl
theorem Zi1 : aE Vq Zu := aF rfl (by decide) (Z3n rfl rfl)
theorem Ybx : aC Y1p Y3q := aD (by decide) rfl rfl
theorem Zfu : aE Z31 Z6i := aF rfl (by decide) (Z3n rfl rfl)
theorem Zlc : aC Z5p Z1f := aD (by decide) rfl rfl
theorem Yde : aC Zf4 Y3t := aD (by decide) rfl rfl
theorem Vt : aC X8 Y9 := aD (by decide) rfl rfl
theorem Ybd : aC Zts Y68 := aD (by decide) rfl rfl
theorem Yaz : aC Zsl Y47 := aD (by decide) rfl rfl
theorem Ycq : aC Zzy Zru := aD (by decide) rfl rfl
theorem Zm3 : aC Wy Z9d := aD (by decide) rfl rfl
theorem Zj7 : aC Z4p Z44 := aD (by decide) rfl rfl
theorem Zm5 : aC Z5j Z96 := aD (by decide) rfl rfl
theorem Xd : aC Yc Yw := aD (by decide) rfl rfl
theorem Zcx : aE Z3c Z5n := aF rfl (by decide) (Z3n rfl rfl)
theorem Zmc : aC Z5z Z5l := aD (by decide) rfl rfl
theorem Zna : aE Z5r Z0c := aF rfl (by decide) (Z3n rfl rfl)
theorem Yby : aE Zz8 Zbz := aF rfl (by decide) (Z3n rfl rfl)
theorem Y8w : aE Zqa Z07 := aF rfl (by decide) (Z3n rfl rfl)
theorem Zlb : aC Z1i Xs := aD (by decide) rfl rfl
theorem Y90 : aE Zwt Zu1 := aF rfl (by decide) (Z3n rfl rfl)
theorem Y8z : aC Zhe Zeu := aD (by decide) rfl rfl
theorem Y9s : aE Zr9 Zvb := aF rfl (by decide) (Z3n rfl rfl)
theorem Zkr : aC Z1e Vn := aD (by decide) rfl rfl
theorem Y7i : aE Zu0 Zwb := aF rfl (by decide) (Z3n rfl rfl)
theorem Ya3 : aE Zqn Zui := aF rfl (by decide) (Z3n rfl rfl)
theorem Zl2 : aC Z1d Z8x := aD (by decide) rfl rfl
theorem Zjp : aC Z47 Z7p := aD (by decide) rfl rfl
theorem Zjt : aC Z4j Z4h := aD (by decide) rfl rfl
theorem Zjw : aC Z0k Z4k := aD (by decide) rfl rfl
theorem Zlk : aC Z3f Z8m := aD (by decide) rfl rfl
theorem Zic : aC Z0j Zbg := aD (by decide) rfl rfl
theorem Zb7 : aC Z0e Z4q := aD (by decide) rfl rfl
theorem Zju : aE Vp Vi := aF rfl (by decide) (Ybo rfl)
theorem Zkp (D : Nat) (as : List A) (h : Hp) (n : Nat) : dfl pr (D + 1) Z39 as h n = Zbk (Zj ⟨den pr D, dcl pr D, dfl pr D⟩ X0.code ⟨slots as, h, n, 0⟩) (Zo9 X0.res) := Y36 ((Pr0.fl Z39).trans rfl)
theorem Zmp (D : Nat) (as : List A) (h : Hp) (n : Nat) : dfl pr (D + 1) Z3h as h n = Zbk (Zj ⟨den pr D, dcl pr D, dfl pr D⟩ Xf.code ⟨slots as, h, n, 0⟩) (Zo9 Xf.res) := Y36 ((Pr0.fl Z3h).trans rfl)
theorem Ybi (D : Nat) (as : List A) : den pr (D + 1) Zrl as = Z8h Z5 as := Zan ((Pr0.ext Zrl (by decide)).trans rfl)
theorem Y8g (D : Nat) (as : List A) : den pr (D + 1) Zgd as = Z8h Z0 as := Zan ((Pr0.ext Zgd (by decide)).trans rfl)
theorem Y9t (D : Nat) (as : List A) : den pr (D + 1) Zhb as = Z8h Z2 as := Zan ((Pr0.ext Zhb (by decide)).trans rfl)
theorem Zaa (D : Nat) (as : List A) : den pr (D + 1) V2 as = Zt4 as := Zan ((Pr0.ext V2 (by decide)).trans rfl)
theorem Zg0 (D : Nat) (as : List A) : den pr (D + 1) Z0x as = Zm6 as := Zan ((Pr0.ext Z0x (by decide)).trans rfl)
end Go.Vm.T
end
