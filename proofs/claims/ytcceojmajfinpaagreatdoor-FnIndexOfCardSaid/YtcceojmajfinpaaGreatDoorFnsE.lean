/-
  A function with a map, by hand
-/
import Derived.Test.YtcceojmajfinpaaGreatDoorVmD
import Derived.Test.YtcceojmajfinpaaGreatDoorOk
import Derived.Test.YtcceojmajfinpaaGreatDoorFnsC
import Derived.Test.YtcceojmajfinpaaGreatDoorFnsA
section
set_option linter.unusedVariables false
set_option linter.unusedSimpArgs false
set_option linter.unusedSectionVars false
namespace Go.Vm.T
open Go.RowKit Go.Proofs
theorem Y6w {P : Program} {w : World} {t : TypeId} {k : IntKind} (hd : P.underlying t = some (.int k)) (b : Bool) (n : Nat) (v : Value) : (Instr.checkKey b (n + 1) t v).run P w = .ok () w := by
 unfold Instr.checkKey
 simp only [dE, run_underlying hd, cX]
 cases v <;> rfl
theorem Y5k {P : Program} {w : World} {t : TypeId} (hd : P.underlying t = some .string) (b : Bool) (n : Nat) (v : Value) : (Instr.checkKey b (n + 1) t v).run P w = .ok () w := by
 unfold Instr.checkKey
 simp only [dE, run_underlying hd, cX]
 cases v <;> rfl
theorem Y2k : SetT Tryz.prog 232 43 4 [0, 0, 1] := by
 refine ⟨Tryz.underlying232, by kernel_rfl, by kernel_rfl, ⟨_, Tryz.underlying43⟩, fun b w vs h => ?_, fun w => Tryz.zeroValue4 w⟩
 match vs, h with
 | [x, y, z], _ =>
   have h3 : ∀ v w, (Instr.checkKey b 9999 3 v).run Tryz.prog w = .ok () w := fun v w => Y6w Tryz.underlying3 b 9998 v
   have h9 : ∀ v w, (Instr.checkKey b 9999 9 v).run Tryz.prog w = .ok () w := fun v w => Y5k Tryz.underlying9 b 9998 v
   show (Instr.checkKey b (9999 + 1) 43 (Zfl [x, y, z])).run Tryz.prog w = .ok () w
   generalize 9999 = m at *
   unfold Instr.checkKey
   simp only [dE, run_underlying Tryz.underlying43, cX, Zfl]
   simp [h3, h9, dE, part]
def vk (v : Val) : List Value := [.int .i64 v.k, .int .i64 v.n, .string v.t]
theorem Yag (a b : Val) : Zda [0, 0, 1] (vk a) (vk b) = some (decide (a = b)) := by
 obtain ⟨k, n, t⟩ := a
 obtain ⟨k', n', t'⟩ := b
 simp only [Val.mk.injEq]
 by_cases h1 : k = k' <;> by_cases h2 : n = n' <;> by_cases h3 : t = t' <;> simp [Zda, vk, X2, Z0m, h1, h2, h3, bnd]
theorem Zu6 (v : Val) : ∀ (keys : List Val) (i : Nat), ∃ r, Z9b [0, 0, 1] (vk v) (keys.map vk) i = some r /\ r.isSome = decide (v ∈ keys)
 | [], i => ⟨none, rfl, by simp⟩
 | x :: xs, i => by
   unfold Z9b
   rw [fO]
   simp only [Yag]
   by_cases h : v = x
   . exact ⟨some i, by simp [h], by simp [h]⟩
   . obtain ⟨r, h1, h2⟩ := Zu6 v xs (i + 1)
     exact ⟨r, by simp [h, h1], by simp [h, h2]⟩
def Zos (keys : List Val) (v : Val) : List Val := if v ∈ keys then keys else keys ++ [v]
theorem Y5g (v : Val) (keys : List Val) : Zgr [0, 0, 1] (keys.map vk) (vk v) = (Zos keys v).map vk := by
 obtain ⟨r, h1, h2⟩ := Zu6 v keys 0
 unfold Zgr Zos
 rw [h1]
 cases r with
 | none =>
   have : v ∉ keys := by simpa using h2.symm
   rw [if_neg this]
   simp
 | some j =>
   have : v ∈ keys := by simpa using h2.symm
   rw [if_pos this]
def Zni (c : ColV) (_ : Nat) (keys : List Val) (v : Val) : List Val ⊕ Unit := if c.once = true /\ v.k ≠ 0 /\ v ∈ keys then .inr () else .inl (Zos keys v)
def Zzn (c : ColV) (vs : List Val) : Bool := match Zv (Zni c) 0 [] vs with
 | .inl _ => true
 | .inr _ => false
def Z9 (t : Tab) : List ColV := (chgs t.first t.chg).getD []
def Vj (t : Tab) (k : Nat) : List Val := t.rows.map fun r => (Wf t r).getD k zV
def Zt7 (t : Tab) (k : Nat) (_ : Unit) (c : ColV) : Unit ⊕ Unit := bif Zzn c (Vj t k) then .inl () else .inr ()
def Zp0 (t : Tab) : Bool := match Zv (Zt7 t) 0 () (Z9 t) with
 | .inl _ => true
 | .inr _ => false
structure OnceOk (t : Tab) : Prop where
 small : SmallT t
 all : (chgs t.first t.chg).isSome = true
 rows : ∀ r ∈ t.rows, NowOk t r
def Ye (B : Go.Code) : Nat -> Go.Code
 | 0 => Zh3 B
 | 1 => Zh3 (Zh3 (Z7m B))
 | 100 => Y9b (Y57 (Z7m (Zh3 (Z7m B))))
 | _ => Z7m (Z7m B)
def Yu (b : Go.Code) : Nat -> Go.Code
 | 2 => Zh3 b
 | 100 => Y57 (Zh3 (Z7m (Z7m b)))
 | _ => Z7m (Z7m (Z7m b))
def Z8a (X : Go.Code) : Nat -> Go.Code
 | 3 => Zh3 X
 | 4 => Zh3 (Z7m X)
 | 5 => Zh3 (Z7m (Z7m X))
 | _ => Y9b (Y57 (Z7m (Z7m (Z7m X))))
def Zk7 (Y : Go.Code) : Nat -> Go.Code
 | 7 => Zh3 Y
 | 8 => Zh3 (Z7m Y)
 | 9 => Zh3 (Zh3 (Z7m (Z7m Y)))
 | 10 => Ydn (Z7m (Zh3 (Z7m (Z7m Y))))
 | _ => Z7m (Z7m (Z7m Y))
theorem Y5z : Tryz.f172.body = some (.seq (Ye (Yt Tryz.f172) 0) (.seq (.seq (Ye (Yt Tryz.f172) 1) (.block 0 (.loop (Ye (Yt Tryz.f172) 100)))) (Ye (Yt Tryz.f172) 9))) := by kernel_rfl
theorem Y4r : Ye (Yt Tryz.f172) 100 = .seq (Yu (Ye (Yt Tryz.f172) 100) 2) (.seq (.cond (.tmp 13) .skip (.exit 0)) (.seq (.block 1 (Yu (Ye (Yt Tryz.f172) 100) 100)) (Yu (Ye (Yt Tryz.f172) 100) 9))) := by kernel_rfl
theorem Y81 : Yu (Ye (Yt Tryz.f172) 100) 100 = .seq (Z8a (Yu (Ye (Yt Tryz.f172) 100) 100) 3) (.seq (.region 4 (Z0d (Z8a (Yu (Ye (Yt Tryz.f172) 100) 100) 4)) false) (.seq (Z8a (Yu (Ye (Yt Tryz.f172) 100) 100) 5) (.block 2 (.loop (Z8a (Yu (Ye (Yt Tryz.f172) 100) 100) 9))))) := by kernel_rfl
theorem Y63 : Z8a (Yu (Ye (Yt Tryz.f172) 100) 100) 9 = .seq (Yu (Z8a (Yu (Ye (Yt Tryz.f172) 100) 100) 9) 2) (.seq (.cond (.tmp 22) .skip (.exit 2)) (.seq (.block 3 (Yu (Z8a (Yu (Ye (Yt Tryz.f172) 100) 100) 9) 100)) (Yu (Z8a (Yu (Ye (Yt Tryz.f172) 100) 100) 9) 9))) := by kernel_rfl
theorem Y8r : Yu (Z8a (Yu (Ye (Yt Tryz.f172) 100) 100) 9) 100 = .seq (Zk7 (Yu (Z8a (Yu (Ye (Yt Tryz.f172) 100) 100) 9) 100) 7) (.seq (Zk7 (Yu (Z8a (Yu (Ye (Yt Tryz.f172) 100) 100) 9) 100) 8) (.seq (.seq (.region 9 (Z0d (Zk7 (Yu (Z8a (Yu (Ye (Yt Tryz.f172) 100) 100) 9) 100) 9)) false) (.cond (.tmp 42) (Zk7 (Yu (Z8a (Yu (Ye (Yt Tryz.f172) 100) 100) 9) 100) 10) .skip)) (.region 11 (Z0d (Zk7 (Yu (Z8a (Yu (Ye (Yt Tryz.f172) 100) 100) 9) 100) 11)) false))) := by kernel_rfl
def o0 : ACode := (.rg 1 false [.o (.box 1 0 Z1 4 (.t 0)), .o (.mv 2 (.k (.v (.bool false))))])
def o1 : ACode := (.rg 1 false [.o (.ld 9 4 true (.t 1)), .o (.call (some 10) 0 1 Zmf [(.t 9)]), .o (.len 11 false (.t 10)), .o (.mv 12 (.k (.v (.int .i64 0))))])
def o2 : ACode := (.rg 0 false [.o (.bin 13 .lss (.t 12) (.t 11))])
def o3 : ACode := (.rg 1 false [.o (.mv 14 (.t 12)), .o (.ia 15 Z0 (.t 10) (.t 12)), .o (.ld 16 7 true (.t 15)), .o (.al 4 0 Z0 [(.v (.string ⟨#[]⟩)), (.v (.int .i64 0)), (.v (.bool false)), (.v (.bool false)), (.v (.int .i64 0)), (.v (.int .i64 0)), (.v (.string ⟨#[]⟩))]), .o (.mv 3 (.t 14)), .o (.st 7 (.t 4) (.t 16))])
def o4b : List G := [.o (.mv 5 (.t 17))]
def o5 : ACode := (.rg 0 false [.o (.fa 18 (.t 1) 2), .o (.ld 19 1 false (.t 18)), .o (.len 20 false (.t 19)), .o (.mv 21 (.k (.v (.int .i64 0))))])
def o6 : ACode := (.rg 0 false [.o (.bin 22 .lss (.t 21) (.t 20))])
def o7 : ACode := (.rg 2 false [.o (.ia 23 Z4 (.t 19) (.t 21)), .o (.ld 24 3 true (.t 23)), .o (.al 7 0 Z4 [(.v (.int .i64 0)), (.v (.int .i64 0)), (.lit Z2 [])]), .o (.st 3 (.t 7) (.t 24))])
def o8 : ACode := (.rg 2 false [.o (.ld 25 4 true (.t 1)), .o (.ld 26 3 true (.t 7)), .o (.call (some 27) 0 1 Zfy [(.t 25), (.t 26)]), .o (.mv 28 (.t 3)), .o (.ia 29 Z2 (.t 27) (.t 28)), .o (.ld 30 3 true (.t 29)), .o (.al 8 1 Z2 [(.v (.int .i64 0)), (.v (.int .i64 0)), (.v (.string ⟨#[]⟩))]), .o (.st 3 (.t 8) (.t 30))])
def o9a : List G := [.o (.fa 31 (.t 4) 3), .o (.ld 32 1 false (.t 31)), .o (.mv 33 (.t 32)), .g 33 true (.fa 34 (.t 8) 0), .g 33 true (.ld 35 1 false (.t 34)), .g 33 true (.bin 36 .neq (.t 35) (.k (.v (.int .i64 0)))), .o (.pick 37 (.t 33) (.t 36) (.k (.v (.bool false)))), .o (.mv 38 (.t 37)), .g 38 true (.mv 39 (.t 5)), .g 38 true (.ld 40 3 true (.t 8))]
def o9b : List G := [.o (.pick 42 (.t 38) (.t 41) (.k (.v (.bool false))))]
def o10 : ACode := (.sq (.rg 0 false [.o (.mv 2 (.k (.v (.bool false))))]) .rt)
def o11 : List G := [.o (.mv 43 (.t 5)), .o (.ld 44 3 true (.t 8))]
def o12 : ACode := (.rg 0 false [.o (.bin 45 .add (.t 21) (.k (.v (.int .i64 1)))), .o (.mv 21 (.t 45))])
def o13 : ACode := (.rg 0 false [.o (.bin 46 .add (.t 12) (.k (.v (.int .i64 1)))), .o (.mv 12 (.t 46))])
def o14 : ACode := (.sq (.rg 0 false [.o (.mv 2 (.k (.v (.bool true))))]) .rt)
theorem oq0 : Yi Tryz.prog 47 o0 (Ye (Yt Tryz.f172) 0) = true := by kernel_rfl
theorem oq1 : Yi Tryz.prog 47 o1 (Ye (Yt Tryz.f172) 1) = true := by kernel_rfl
theorem oq2 : Yi Tryz.prog 47 o2 (Yu (Ye (Yt Tryz.f172) 100) 2) = true := by kernel_rfl
theorem oq3 : Yi Tryz.prog 47 o3 (Z8a (Yu (Ye (Yt Tryz.f172) 100) 100) 3) = true := by kernel_rfl
theorem oq5 : Yi Tryz.prog 47 o5 (Z8a (Yu (Ye (Yt Tryz.f172) 100) 100) 5) = true := by kernel_rfl
theorem oq7 : Yi Tryz.prog 47 o7 (Zk7 (Yu (Z8a (Yu (Ye (Yt Tryz.f172) 100) 100) 9) 100) 7) = true := by kernel_rfl
theorem oq8 : Yi Tryz.prog 47 o8 (Zk7 (Yu (Z8a (Yu (Ye (Yt Tryz.f172) 100) 100) 9) 100) 8) = true := by kernel_rfl
theorem Yej : Yi Tryz.prog 47 o10 (Zk7 (Yu (Z8a (Yu (Ye (Yt Tryz.f172) 100) 100) 9) 100) 10) = true := by kernel_rfl
theorem Yed : Yi Tryz.prog 47 o12 (Yu (Z8a (Yu (Ye (Yt Tryz.f172) 100) 100) 9) 9) = true := by kernel_rfl
theorem Yes : Yi Tryz.prog 47 o13 (Yu (Ye (Yt Tryz.f172) 100) 9) = true := by kernel_rfl
theorem Yec : Yi Tryz.prog 47 o14 (Ye (Yt Tryz.f172) 9) = true := by kernel_rfl
theorem Ydz : Zdc Tryz.prog 47 (Z0d (Z8a (Yu (Ye (Yt Tryz.f172) 100) 100) 4)) 1 o4b = true := by kernel_rfl
theorem Yeg : Zdc Tryz.prog 47 (Z0d (Zk7 (Yu (Z8a (Yu (Ye (Yt Tryz.f172) 100) 100) 9) 100) 9)) 0 o9a = true := by kernel_rfl
theorem Ye6 : Zdc Tryz.prog 47 (Z0d (Zk7 (Yu (Z8a (Yu (Ye (Yt Tryz.f172) 100) 100) 9) 100) 9)) 11 o9b = true := by kernel_rfl
theorem Yeh : Zdc Tryz.prog 47 (Z0d (Zk7 (Yu (Z8a (Yu (Ye (Yt Tryz.f172) 100) 100) 9) 100) 11)) 0 o11 = true := by kernel_rfl
theorem l4 : (Z0d (Z8a (Yu (Ye (Yt Tryz.f172) 100) 100) 4)).size = 2 := by kernel_rfl
theorem l9 : (Z0d (Zk7 (Yu (Z8a (Yu (Ye (Yt Tryz.f172) 100) 100) 9) 100) 9)).size = 12 := by kernel_rfl
theorem l11 : (Z0d (Zk7 (Yu (Z8a (Yu (Ye (Yt Tryz.f172) 100) 100) 9) 100) 11)).size = 3 := by kernel_rfl
def Zxs (tm d : Nat) (o : Oper) : Bool := (match o.op with | .makeMap t none => decide (t = tm) | _ => false) && o.guard.isNone && decide (o.dst = some d)
theorem Zsd {tm d : Nat} {o : Oper} (h : Zxs tm d o = true) : o.op = .makeMap tm none /\ o.guard = none /\ o.dst = some d := by
 unfold Zxs at h
 simp only [dQ, eJ, fZ] at h
 obtain ⟨⟨h1, h2⟩, h3⟩ := h
 split at h1
 . rename_i t ho
   simp only [eJ] at h1
   subst h1
   exact ⟨ho, h2, h3⟩
 . cases h1
def Zvg (tm d m k j : Nat) (o : Oper) : Bool := (match o.op with | .lookup t (.tmp x) (.tmp y) false => decide (t = tm) && decide (x = m) && decide (y = k) | _ => false) && decide (o.guard = some (j, true)) && decide (o.dst = some d)
theorem Zsz {tm d m k j : Nat} {o : Oper} (h : Zvg tm d m k j o = true) : o.op = .lookup tm (.tmp m) (.tmp k) false /\ o.guard = some (j, true) /\ o.dst = some d := by
 unfold Zvg at h
 simp only [dQ, eJ] at h
 obtain ⟨⟨h1, h2⟩, h3⟩ := h
 split at h1
 . rename_i t x y ho
   simp only [dQ, eJ] at h1
   obtain ⟨⟨rfl, rfl⟩, rfl⟩ := h1
   exact ⟨ho, h2, h3⟩
 . cases h1
def Y6i (tm m k : Nat) (o : Oper) : Bool := (match o.op with | .mapUpdate t (.tmp x) (.tmp y) (.const (.bool true)) => decide (t = tm) && decide (x = m) && decide (y = k) | _ => false) && o.guard.isNone && o.dst.isNone
theorem Zvt {tm m k : Nat} {o : Oper} (h : Y6i tm m k o = true) : o.op = .mapUpdate tm (.tmp m) (.tmp k) (.const (.bool true)) /\ o.dst = none /\ o.guard = none := by
 unfold Y6i at h
 simp only [dQ, fZ] at h
 obtain ⟨⟨h1, h2⟩, h3⟩ := h
 split at h1
 . rename_i t x y ho
   simp only [dQ, eJ] at h1
   obtain ⟨⟨rfl, rfl⟩, rfl⟩ := h1
   exact ⟨ho, h3, h2⟩
 . cases h1
theorem Ybs : Y7e (Z0d (Z8a (Yu (Ye (Yt Tryz.f172) 100) 100) 4)) 0 (Zxs 232 17) = true := by kernel_rfl
theorem Yc9 : Y7e (Z0d (Zk7 (Yu (Z8a (Yu (Ye (Yt Tryz.f172) 100) 100) 9) 100) 9)) 10 (Zvg 232 41 39 40 7) = true := by kernel_rfl
theorem Y8q : ((Z0d (Zk7 (Yu (Z8a (Yu (Ye (Yt Tryz.f172) 100) 100) 9) 100) 9))[7]?).bind (·.dst) = some 38 := by kernel_rfl
theorem Y9c : Y7e (Z0d (Zk7 (Yu (Z8a (Yu (Ye (Yt Tryz.f172) 100) 100) 9) 100) 11)) 2 (Y6i 232 43 44) = true := by kernel_rfl
theorem Ya8 : Z9y Tryz.prog Tryz.f172.results.toList [.t 2] = true := by kernel_rfl
theorem Zvx : Tryz.f172.ntmps = 47 := by kernel_rfl
end Go.Vm.T
namespace Go.Vm.T
open Go.RowKit Go.Proofs
variable [Pr1]
structure F1 (t : Tab) (U : St) : Prop where
 base : U.base = 0
 n2 : 2 <= U.n
 s1 : U.s 1 = .ptr 0 0 0
 h0 : U.h 0 = cT Z1 [t.c]
 s10 : U.s 10 = .ref Z0 1 0 (Z9 t).length (Z9 t).length false
 h1 : U.h 1 = some ⟨Z0, (Z9 t).map ColV.c, true, false⟩
 s11 : U.s 11 = .n (Z9 t).length
structure F3 (t : Tab) (k : Nat) (c : ColV) (U : St) : Prop where
 base : U.base = 0
 n2 : 2 <= U.n
 s1 : U.s 1 = .ptr 0 0 0
 h0 : U.h 0 = cT Z1 [t.c]
 s10 : U.s 10 = .ref Z0 1 0 (Z9 t).length (Z9 t).length false
 h1 : U.h 1 = some ⟨Z0, (Z9 t).map ColV.c, true, false⟩
 s11 : U.s 11 = .n (Z9 t).length
 s12 : U.s 12 = .n (k : Nat)
 s3 : U.s 3 = .n (k : Nat)
 b4 : ∃ b, b < U.n /\ 2 <= b /\ U.s 4 = .ptr b 0 0 /\ U.h b = cT Z0 [c.c]
structure F5 (t : Tab) (k : Nat) (c : ColV) (km j : Nat) (U : St) : Prop where
 f3 : F3 t k c U
 s5 : U.s 5 = .v (.map (some km))
 s19 : U.s 19 = .lit Z4 (t.rows.map RowV.c)
 s20 : U.s 20 = .n t.rows.length
 s21 : U.s 21 = .n (j : Nat)
theorem ev0 (E : Env) (t : Tab) : ∃ U', Zj E o0 ⟨slots [.agg t.c], fun _ => none, 0, 0⟩ = some (.norm U') /\ U'.base = 0 /\ U'.n = 1 /\ U'.s 1 = .ptr 0 0 0 /\ U'.h 0 = cT Z1 [t.c] := by
 simp only [o0, go_sem]
 exact ⟨_, rfl, rfl, rfl, rfl, rfl⟩
theorem ev1 (t : Tab) (H : OnceOk t) (U : St) (hb : U.base = 0) (hn : U.n = 1) (h1 : U.s 1 = .ptr 0 0 0) (h0 : U.h 0 = cT Z1 [t.c]) : ∃ U', Zj ⟨den pr 8, dcl pr 8, dfl pr 8⟩ o1 U = some (.norm U') /\ F1 t U' /\ U'.s 12 = .n (0 : Nat) := by
 obtain ⟨s, h, n, b⟩ := U
 simp only at hb hn h1 h0
 subst hb; subst hn
 have e1 := Zij (show 7 <= 8 by omega) t H.small
 have j0 : den pr 8 Zmf [.agg t.c] = some [.olit Z0 ((Z9 t).map ColV.c)] := e1
 generalize hs : Z9 t = sh at *
 simp only [o1, go_sem, h1, h0, j0, dN, Za]
 exact ⟨_, rfl, ⟨rfl, dO 2, h1, h0, by rw [hs]; rfl, by rw [hs]; rfl, by rw [hs]; rfl⟩, rfl⟩
theorem ev3 (t : Tab) (k : Nat) (c : ColV) (hc : (Z9 t)[k]? = some c) (U : St) (F : F1 t U) (h12 : U.s 12 = .n (k : Nat)) : ∃ U', Zj ⟨den pr 8, dcl pr 8, dfl pr 8⟩ o3 U = some (.norm U') /\ F3 t k c U' := by
 obtain ⟨s, h, n, b⟩ := U
 obtain ⟨hb, hn, h1, h0, j0, j1, j2⟩ := F
 simp only at hb hn h1 h0 j0 j1 j2 h12
 subst hb
 have hk : k < (Z9 t).length := (dU.1 hc).1
 have hr := Zq (f := ColV.c) hc
 have n0 : ¬ 0 = n := by omega
 have n1 : ¬ 1 = n := by omega
 simp only [o3, go_sem, j0, j1, h12, hk, hr]
 exact ⟨_, rfl, ⟨rfl, by show 2 <= n + 1; omega, h1, by simp only [go_sem, n0, h0], j0, by simp only [go_sem, n1, j1], j2, h12, rfl, n, by show n < n + 1; omega, hn, rfl, by simp only [go_sem]⟩⟩
theorem F3.step {t : Tab} {k : Nat} {c : ColV} {U U' : St} (F : F3 t k c U) (hb : U'.base = 0) (hn : U.n <= U'.n) (hs : ∀ i, i ∈ [1, 3, 4, 10, 11, 12] -> U'.s i = U.s i) (hh : ∀ i, i < U.n -> U'.h i = U.h i) : F3 t k c U' := by
 obtain ⟨f1, f2, f3, f4, f5, f6, f7, f8, f9, b, j0, j1, j2, f13⟩ := F
 exact ⟨hb, by omega, by rw [hs 1 (by simp)]; exact f3, by rw [hh 0 (by omega)]; exact f4, by rw [hs 10 (by simp)]; exact f5, by rw [hh 1 (by omega)]; exact f6, by rw [hs 11 (by simp)]; exact f7, by rw [hs 12 (by simp)]; exact f8, by rw [hs 3 (by simp)]; exact f9, b, by omega, j1, by rw [hs 4 (by simp)]; exact j2, by rw [hh b j0]; exact f13⟩
theorem ev5 (t : Tab) (k : Nat) (c : ColV) (km : Nat) (U : St) (F : F3 t k c U) (h5 : U.s 5 = .v (.map (some km))) : ∃ U', Zj ⟨den pr 8, dcl pr 8, dfl pr 8⟩ o5 U = some (.norm U') /\ F5 t k c km 0 U' := by
 obtain ⟨s, h, n, b⟩ := U
 have hb := F.base
 have h1 := F.s1
 have h0 := F.h0
 simp only at hb h1 h0 h5
 subst hb
 simp only [o5, go_sem, h1, h0, dN]
 exact ⟨_, rfl, ⟨F.step rfl (dO _) (fun i hi => by
  simp only [eK, fP, or_false] at hi
  rcases hi with rfl | rfl | rfl | rfl | rfl | rfl <;> rfl) (fun i _ => rfl), h5, rfl, rfl, rfl⟩⟩
theorem F5.step {t : Tab} {k : Nat} {c : ColV} {km j : Nat} {U U' : St} (F : F5 t k c km j U) (hb : U'.base = 0) (hn : U.n <= U'.n) (hs : ∀ i, i ∈ [1, 3, 4, 5, 10, 11, 12, 19, 20, 21] -> U'.s i = U.s i) (hh : ∀ i, i < U.n -> U'.h i = U.h i) : F5 t k c km j U' := by
 obtain ⟨f, f5, j0, j2, j1⟩ := F
 exact ⟨f.step hb hn (fun i hi => hs i (by simp only [eK, fP, or_false] at hi ⊢; omega)) hh, by rw [hs 5 (by simp)]; exact f5, by rw [hs 19 (by simp)]; exact j0, by rw [hs 20 (by simp)]; exact j2, by rw [hs 21 (by simp)]; exact j1⟩
structure F8 (v : Val) (U : St) : Prop where
 b8 : ∃ b, b < U.n /\ U.s 8 = .ptr b 0 0 /\ U.h b = cT Z2 [v.c]
theorem ev7 (t : Tab) (k : Nat) (c : ColV) (km j : Nat) (r : RowV) (hr : t.rows[j]? = some r) (hl : t.rows.length <= big) (U : St) (F : F5 t k c km j U) : ∃ U', Zj ⟨den pr 8, dcl pr 8, dfl pr 8⟩ o7 U = some (.norm U') /\ F5 t k c km j U' /\ ∃ b, b < U'.n /\ 2 <= b /\ U'.s 7 = .ptr b 0 0 /\ U'.h b = cT Z4 [r.c] := by
 obtain ⟨s, h, n, b⟩ := U
 have hb := F.f3.base
 have hn := F.f3.n2
 have j1 := F.s19
 have j0 := F.s21
 simp only at hb hn j1 j0
 subst hb
 have hx := Zq (f := RowV.c) hr
 have hj : j < t.rows.length := (dU.1 hr).1
 simp only [o7, go_sem, j1, j0, hx]
 refine ⟨_, rfl, F.step rfl (Nat.le_add_right _ _) (fun i hi => ?_) (fun i hi => ?_), n, by show n < n + 2; omega, hn, rfl, by simp only [go_sem]⟩
 . simp only [eK, fP, or_false] at hi
   rcases hi with rfl | rfl | rfl | rfl | rfl | rfl | rfl | rfl | rfl | rfl <;> rfl
 . have j2 : i < n := hi
   have i1 : ¬ i = n := by omega
   have i2 : ¬ i = n + 1 := by omega
   simp only [Z7, i1, i2, if_false]
theorem Z3o {t : Tab} {r : RowV} (H : NowOk t r) : (Wf t r).length = (Z9 t).length := by
 obtain ⟨s, s', h1, h2, h3⟩ := H.then_
 have hl := H.len
 unfold Wf Z9
 rw [h1] at hl ⊢
 rw [h3]
 simp only [dD] at hl ⊢
 exact Zx1 h2 hl
theorem ev8 (t : Tab) (H : OnceOk t) (k : Nat) (c : ColV) (hk : k < (Z9 t).length) (km j : Nat) (r : RowV) (hr : t.rows[j]? = some r) (U : St) (F : F5 t k c km j U) (h7 : ∃ b, b < U.n /\ 2 <= b /\ U.s 7 = .ptr b 0 0 /\ U.h b = cT Z4 [r.c]) :
 ∃ U', Zj ⟨den pr 8, dcl pr 8, dfl pr 8⟩ o8 U = some (.norm U') /\ F5 t k c km j U' /\ F8 ((Wf t r).getD k zV) U' := by
 obtain ⟨s, h, n, b⟩ := U
 obtain ⟨b7, g1, g2, g3, g4⟩ := h7
 have hb := F.f3.base
 have hn := F.f3.n2
 have h1 := F.f3.s1
 have h0 := F.f3.h0
 have h3 := F.f3.s3
 simp only at hb hn h1 h0 h3 g1 g3 g4
 subst hb
 have hN := H.rows r (dY hr)
 have e1 := Zwj (show 7 <= 8 by omega) t H.small r hN
 have j1 := Z3o hN
 have hx : (Wf t r)[k]? = some ((Wf t r).getD k zV) := by
  rw [fV, dS (by omega), dD]
 generalize (Wf t r).getD k zV = v at *
 have j0 : k < (Wf t r).length := by omega
 generalize Wf t r = row at *
 have j2 := Zq (f := Val.c) hx
 have m1 : ¬ b7 = n := by omega
 have m2 : ¬ 0 = n := by omega
 simp only [o8, go_sem, h1, h0, h3, g3, g4, e1, j2, j0, dN, Zp]
 refine ⟨_, rfl, F.step rfl (Nat.le_add_right _ _) (fun i hi => ?_) (fun i hi => ?_), ⟨n + 1, by show n + 1 < n + 2; omega, rfl, by simp only [go_sem]⟩⟩
 . simp only [eK, fP, or_false] at hi
   rcases hi with rfl | rfl | rfl | rfl | rfl | rfl | rfl | rfl | rfl | rfl <;> rfl
 . have j3 : i < n := hi
   have i1 : ¬ i = n := by omega
   have i2 : ¬ i = n + 1 := by omega
   simp only [Z7, i1, i2, if_false]
theorem Yel (t : Tab) (k : Nat) (c : ColV) (km j : Nat) (v : Val) (U : St) (F : F5 t k c km j U) (f8 : F8 v U) :
 ∃ U' q, Ze ⟨den pr 8, dcl pr 8, dfl pr 8⟩ 0 o9a U = some U' /\ F5 t k c km j U' /\ F8 v U' /\ U'.n = U.n /\ U'.s 38 = .q q /\ q = (c.once && !decide (v.k = 0)) /\ (q = true -> unT (U'.s 39) = .v (.map (some km)) /\ unT (U'.s 40) = .agg ((vk v).map A.v)) := by
 obtain ⟨s, h, n, b⟩ := U
 obtain ⟨b8, p1, p2, p3⟩ := f8.b8
 obtain ⟨b4, r1, r2, r3, r4⟩ := F.f3.b4
 have hb := F.f3.base
 have h5 := F.s5
 simp only at hb h5 p1 p2 p3 r1 r3 r4
 subst hb
 obtain ⟨cn, ck, need, once, df⟩ := c
 obtain ⟨k8, n8, t8⟩ := v
 have key : ∀ (U' : St), U'.base = 0 -> U'.n = n -> U'.h = h -> (∀ i, i ∈ [1, 3, 4, 5, 8, 10, 11, 12, 19, 20, 21] -> U'.s i = s i) -> F5 t k ⟨cn, ck, need, once, df⟩ km j U' /\ F8 ⟨k8, n8, t8⟩ U' := fun U' q1 q2 q3 q4 =>
  ⟨F.step q1 (by rw [q2]; exact dO _) (fun i hi => q4 i (by simp only [eK, fP, or_false] at hi ⊢; omega)) (fun i _ => by rw [q3]), ⟨b8, by rw [q2]; exact p1, by rw [q4 8 (by simp)]; exact p2, by rw [q3]; exact p3⟩⟩
 have fin : ∀ (U' : St) (q : Bool), Ze ⟨den pr 8, dcl pr 8, dfl pr 8⟩ 0 o9a ⟨s, h, n, 0⟩ = some U' -> U'.base = 0 -> U'.n = n -> U'.h = h -> (∀ i, i ∈ [1, 3, 4, 5, 8, 10, 11, 12, 19, 20, 21] -> U'.s i = s i) -> U'.s 38 = .q q -> q = (once && !decide (k8 = 0)) -> (q = true -> unT (U'.s 39) = .v (.map (some km)) /\ unT (U'.s 40) = .agg ((vk ⟨k8, n8, t8⟩).map A.v)) -> ∃ U' q, Ze ⟨den pr 8, dcl pr 8, dfl pr 8⟩ 0 o9a ⟨s, h, n, 0⟩ = some U' /\ F5 t k ⟨cn, ck, need, once, df⟩ km j U' /\ F8 ⟨k8, n8, t8⟩ U' /\ U'.n = n /\ U'.s 38 = .q q /\ q = (once && !decide (k8 = 0)) /\ (q = true -> unT (U'.s 39) = .v (.map (some km)) /\ unT (U'.s 40) = .agg ((vk ⟨k8, n8, t8⟩).map A.v)) :=
  fun U' q e1 e2 e3 e4 e5 e6 e7 e8 => ⟨U', q, e1, (key U' e2 e3 e4 e5).1, (key U' e2 e3 e4 e5).2, e3, e6, e7, e8⟩
 have j0 : ∀ (f : Nat -> A), (∀ i, i ∈ [1, 3, 4, 5, 8, 10, 11, 12, 19, 20, 21] -> f i = s i) -> True := fun _ _ => trivial
 cases once with
 | false =>
   have ex : ∃ U', Ze ⟨den pr 8, dcl pr 8, dfl pr 8⟩ 0 o9a ⟨s, h, n, 0⟩ = some U' /\ U'.base = 0 /\ U'.n = n /\ U'.h = h /\ (∀ i, i ∈ [1, 3, 4, 5, 8, 10, 11, 12, 19, 20, 21] -> U'.s i = s i) /\ U'.s 38 = .q false := by
    simp only [o9a, go_sem, h5, r3, r4, p2, p3]
    refine ⟨_, rfl, rfl, rfl, rfl, fun i hi => ?_, rfl⟩
    rcases hi with rfl | rfl | rfl | rfl | rfl | rfl | rfl | rfl | rfl | rfl | rfl <;> rfl
   obtain ⟨U', e1, e2, e3, e4, e5, e6⟩ := ex
   exact fin U' false e1 e2 e3 e4 e5 e6 rfl (fun h => by cases h)
 | true =>
   have ex : ∃ U', Ze ⟨den pr 8, dcl pr 8, dfl pr 8⟩ 0 o9a ⟨s, h, n, 0⟩ = some U' /\ U'.base = 0 /\ U'.n = n /\ U'.h = h /\ (∀ i, i ∈ [1, 3, 4, 5, 8, 10, 11, 12, 19, 20, 21] -> U'.s i = s i) /\ U'.s 38 = .q (!decide (k8 = 0)) /\ ((!decide (k8 = 0)) = true -> unT (U'.s 39) = .v (.map (some km)) /\ unT (U'.s 40) = .agg ((vk ⟨k8, n8, t8⟩).map A.v)) := by
    rcases pf (k8 = 0) with h0 | h0
    . simp only [o9a, go_sem, h5, r3, r4, p2, p3, h0]
      refine ⟨_, rfl, rfl, rfl, rfl, fun i hi => ?_, rfl, fun h => by cases h⟩
      rcases hi with rfl | rfl | rfl | rfl | rfl | rfl | rfl | rfl | rfl | rfl | rfl <;> rfl
    . simp only [o9a, go_sem, h5, r3, r4, p2, p3, h0]
      refine ⟨_, rfl, rfl, rfl, rfl, fun i hi => ?_, rfl, fun h => ⟨rfl, rfl⟩⟩
      rcases hi with rfl | rfl | rfl | rfl | rfl | rfl | rfl | rfl | rfl | rfl | rfl <;> rfl
   obtain ⟨U', e1, e2, e3, e4, e5, e6, e7⟩ := ex
   exact fin U' _ e1 e2 e3 e4 e5 e6 rfl e7
theorem ev6 (t : Tab) (k : Nat) (c : ColV) (km j : Nat) (U : St) (F : F5 t k c km j U) : ∃ U', Zj ⟨den pr 8, dcl pr 8, dfl pr 8⟩ o6 U = some (.norm U') /\ F5 t k c km j U' /\ U'.s 22 = .q (decide (j < t.rows.length)) := by
 obtain ⟨s, h, n, b⟩ := U
 have hb := F.f3.base
 have j1 := F.s20
 have j0 := F.s21
 simp only at hb j1 j0
 subst hb
 have hi : ((j : Int) < (t.rows.length : Int)) = (j < t.rows.length) := by simp
 simp only [o6, go_sem, j1, j0, hi]
 refine ⟨_, rfl, F.step rfl (dO _) (fun i hi => ?_) (fun i hi => rfl), rfl⟩
 simp only [eK, fP, or_false] at hi
 rcases hi with rfl | rfl | rfl | rfl | rfl | rfl | rfl | rfl | rfl | rfl <;> rfl
theorem Yeu (t : Tab) (k : Nat) (c : ColV) (km j : Nat) (hj : j <= big) (U : St) (F : F5 t k c km j U) : ∃ U', Zj ⟨den pr 8, dcl pr 8, dfl pr 8⟩ o12 U = some (.norm U') /\ F5 t k c km (j + 1) U' := by
 obtain ⟨s, h, n, b⟩ := U
 have hb := F.f3.base
 have j0 := F.s21
 simp only at hb j0
 subst hb
 have hw := Zk (n := j) (by unfold big at hj; omega)
 simp only [o12, go_sem, j0, hw]
 have g : F3 t k c ⟨upd (upd s 45 (.n ((j + 1 : Nat) : Int))) 21 (.n ((j + 1 : Nat) : Int)), h, n, 0⟩ := F.f3.step rfl (dO _) (fun i hi => by
  simp only [eK, fP, or_false] at hi
  rcases hi with rfl | rfl | rfl | rfl | rfl | rfl <;> rfl) (fun i _ => rfl)
 exact ⟨_, rfl, ⟨g, F.s5, F.s19, F.s20, rfl⟩⟩
theorem ev2 (t : Tab) (k : Nat) (U : St) (F : F1 t U) (h12 : U.s 12 = .n (k : Nat)) : ∃ U', Zj ⟨den pr 8, dcl pr 8, dfl pr 8⟩ o2 U = some (.norm U') /\ F1 t U' /\ U'.s 12 = .n (k : Nat) /\ U'.s 13 = .q (decide (k < (Z9 t).length)) := by
 obtain ⟨s, h, n, b⟩ := U
 obtain ⟨hb, hn, h1, h0, j1, j2, j0⟩ := F
 simp only at hb hn h1 h0 j1 j2 j0 h12
 subst hb
 have hi : ((k : Int) < ((Z9 t).length : Int)) = (k < (Z9 t).length) := by simp
 simp only [o2, go_sem, j0, h12, hi]
 exact ⟨_, rfl, ⟨rfl, hn, h1, h0, j1, j2, j0⟩, h12, rfl⟩
theorem Ye7 (t : Tab) (k : Nat) (c : ColV) (hk : k <= big) (U : St) (F : F3 t k c U) : ∃ U', Zj ⟨den pr 8, dcl pr 8, dfl pr 8⟩ o13 U = some (.norm U') /\ F1 t U' /\ U'.s 12 = .n ((k + 1 : Nat) : Int) := by
 obtain ⟨s, h, n, b⟩ := U
 obtain ⟨hb, hn, h1, h0, j0, j3, j1, j2, _⟩ := F
 simp only at hb hn h1 h0 j0 j3 j1 j2
 subst hb
 have hw := Zk (n := k) (by unfold big at hk; omega)
 simp only [o13, go_sem, j2, hw]
 exact ⟨_, rfl, ⟨rfl, hn, h1, h0, j0, j3, j1⟩, rfl⟩
abbrev HyO (S : Nat -> Prop) (w0 : World) (mp : Mp) (U : St) (a : Act) (w : World) : Prop := Hy Tryz.prog S w0 47 mp U a w
theorem Y6r (O : ProgOk Tryz.prog pr) (S : Nat -> Prop) (w0 : World) (t : Tab) (H : OnceOk t) (k : Nat) (c : ColV) (hk : k < (Z9 t).length) (j : Nat) (r : RowV) (hr : t.rows[j]? = some r) (keys : List Val) (km cl : Nat) (es : Array MapEntry) (hh : Holds [0, 0, 1] es.toList (keys.map vk)) (U : St) (a : Act) (w : World)
 (Y : HyO S w0 (some (km, es, cl)) U a w) (F : F5 t k c km j U) {Q : Exit -> Act -> World -> Prop}
 (qr : Zni c j keys ((Wf t r).getD k zV) = .inr () -> ∀ U a w, HyO S w0 none U a w -> U.s 2 = .q false -> Q .ret a w)
 (qn : Zni c j keys ((Wf t r).getD k zV) = .inl (Zos keys ((Wf t r).getD k zV)) -> ∀ U a w es cl, HyO S w0 (some (km, es, cl)) U a w -> F5 t k c km j U -> Holds [0, 0, 1] es.toList ((Zos keys ((Wf t r).getD k zV)).map vk) -> Q .normal a w) :
 (Yu (Z8a (Yu (Ye (Yt Tryz.f172) 100) 100) 9) 100).wp Tryz.prog Q a w := by
 have hE := Zfd O 8
 have j3 := O.shr 8
 rw [Y8r]
 refine wp_seq ?_
 obtain ⟨U1, e1, j5, h7⟩ := ev7 t k c km j r hr H.small.rlen U F
 refine Y.code hE j3 orders oq7 e1 j5.f3.base (fun ex a1 w1 hs Y1 => ?_)
 cases ex <;> simp only [Zx] at hs
 simp only [Exit.then, Out.st] at Y1 ⊢
 refine wp_seq ?_
 obtain ⟨U2, e2, F2, f8⟩ := ev8 t H k c hk km j r hr U1 j5 h7
 refine Y1.code hE j3 orders oq8 e2 F2.f3.base (fun ex a2 w2 hs Y2 => ?_)
 cases ex <;> simp only [Zx] at hs
 simp only [Exit.then, Out.st] at Y2 ⊢
 generalize (Wf t r).getD k zV = v at *
 refine wp_seq (wp_seq (wp_region ?_))
 rw [l9]
 show wpOps Tryz.prog (Z0d (Zk7 (Yu (Z8a (Yu (Ye (Yt Tryz.f172) 100) 100) 9) 100) 9)) _ (List.range' 0 o9a.length ++ (10 :: (List.range' 11 o9b.length ++ []))) a2 w2
 obtain ⟨U3, q, e3, j7, ji, m3, j2, hq, j6⟩ := Yel t k c km j v U2 F2 f8
 refine Hy.seg hE o9a 0 Yeg Y2 e3 m3 (fun a3 w3 Y3 => ?_)
 obtain ⟨o, ho, hp⟩ := Zdk Yc9
 obtain ⟨je, j4, j9⟩ := Zsz hp
 obtain ⟨rr, j8, ja⟩ := Zu6 v keys 0
 refine Y3.lookup Y2k ho je j9 (by decide) j4 Y8q (k := vk v) rfl hh j8 (t := q) (by unfold Z4g; rw [j2]; cases q <;> rfl) (fun h => (j6 h).1) (fun h => (j6 h).2) (fun a4 Y4 => ?_)
 obtain ⟨U5, e5, j1, jd, m5, jg⟩ : ∃ U', Ze ⟨den pr 8, dcl pr 8, dfl pr 8⟩ 0 o9b { U3 with s := upd U3.s 41 (.ifg q (.q rr.isSome)) } = some U' /\ F5 t k c km j U' /\ F8 v U' /\ U'.n = U3.n /\ U'.s 42 = .q (q && rr.isSome) := by
  obtain ⟨s, h, n, b⟩ := U3
  have hb := j7.f3.base
  simp only at hb j2
  subst hb
  have st : ∀ U' : St, U'.base = 0 -> U'.n = n -> U'.h = h -> (∀ i, i ∈ [1, 3, 4, 5, 8, 10, 11, 12, 19, 20, 21] -> U'.s i = s i) -> F5 t k c km j U' /\ F8 v U' := fun U' q1 q2 q3 q4 => by
   obtain ⟨b8, p1, p2, p3⟩ := ji.b8
   exact ⟨j7.step q1 (by rw [q2]; exact dO _) (fun i hi => q4 i (by simp only [eK, fP, or_false] at hi ⊢; omega)) (fun i _ => by rw [q3]), ⟨b8, by rw [q2]; exact p1, by rw [q4 8 (by simp)]; exact p2, by rw [q3]; exact p3⟩⟩
  have ex : ∃ U', Ze ⟨den pr 8, dcl pr 8, dfl pr 8⟩ 0 o9b ⟨upd s 41 (.ifg q (.q rr.isSome)), h, n, 0⟩ = some U' /\ U'.base = 0 /\ U'.n = n /\ U'.h = h /\ (∀ i, i ∈ [1, 3, 4, 5, 8, 10, 11, 12, 19, 20, 21] -> U'.s i = s i) /\ U'.s 42 = .q (q && rr.isSome) := by
   cases q with
   | false =>
     simp only [o9b, go_sem, j2]
     refine ⟨_, rfl, rfl, rfl, rfl, fun i hi => ?_, rfl⟩
     rcases hi with rfl | rfl | rfl | rfl | rfl | rfl | rfl | rfl | rfl | rfl | rfl <;> rfl
   | true =>
     simp only [o9b, go_sem, j2]
     refine ⟨_, rfl, rfl, rfl, rfl, fun i hi => ?_, rfl⟩
     rcases hi with rfl | rfl | rfl | rfl | rfl | rfl | rfl | rfl | rfl | rfl | rfl <;> rfl
  obtain ⟨U', x1, x2, x3, x4, x5, x6⟩ := ex
  exact ⟨U', x1, (st U' x2 x3 x4 x5).1, (st U' x2 x3 x4 x5).2, x3, x6⟩
 refine Hy.seg hE o9b 11 Ye6 Y4 e5 m5 (fun a5 w5 Y5 => ?_)
 show Exit.then _ _ .normal a5 w5
 simp only [Exit.then]
 refine wp_cond (Y5.bool jg) ?_
 have j0 : Zni c j keys v = if (q && rr.isSome) = true then .inr () else .inl (Zos keys v) := by
  unfold Zni
  rw [ja, hq]
  by_cases h1 : c.once = true <;> by_cases h2 : v.k = 0 <;> by_cases h3 : v ∈ keys <;> simp [h1, h2, h3]
 cases hc : (q && rr.isSome) with
 | true =>
   rw [hc] at j0
   simp only [if_true]
   obtain ⟨U6, e6, b6, jf⟩ : ∃ U', Zj ⟨den pr 8, dcl pr 8, dfl pr 8⟩ o10 U5 = some (.ret U') /\ U'.base = 0 /\ U'.s 2 = .q false := by
    obtain ⟨s, h, n, b⟩ := U5
    have hb := j1.f3.base
    simp only at hb
    subst hb
    simp only [o10, go_sem]
    exact ⟨_, rfl, rfl, rfl⟩
   refine Y5.code hE j3 orders Yej e6 b6 (fun ex a6 w6 hs Y6 => ?_)
   cases ex <;> simp only [Zx] at hs
   simp only [Exit.then, Out.st] at Y6 ⊢
   exact qr j0 U6 a6 w6 Y6.drop jf
 | false =>
   rw [hc] at j0
   simp only [eH, if_false] at j0 ⊢
   refine wp_skip ?_
   simp only [Exit.then]
   refine wp_region ?_
   rw [l11]
   show wpOps Tryz.prog (Z0d (Zk7 (Yu (Z8a (Yu (Ye (Yt Tryz.f172) 100) 100) 9) 100) 11)) _ (List.range' 0 o11.length ++ [2]) a5 w5
   obtain ⟨U7, e7, F7, m7, jh, jb⟩ : ∃ U', Ze ⟨den pr 8, dcl pr 8, dfl pr 8⟩ 0 o11 U5 = some U' /\ F5 t k c km j U' /\ U'.n = U5.n /\ U'.s 43 = .v (.map (some km)) /\ U'.s 44 = .agg ((vk v).map A.v) := by
    obtain ⟨s, h, n, b⟩ := U5
    have hb := j1.f3.base
    have h5 := j1.s5
    obtain ⟨b8, p1, p2, p3⟩ := jd.b8
    simp only at hb h5 p1 p2 p3
    subst hb
    simp only [o11, go_sem, h5, p2, p3]
    refine ⟨_, rfl, j1.step rfl (dO _) (fun i hi => ?_) (fun i _ => rfl), rfl, rfl, rfl⟩
    simp only [eK, fP, or_false] at hi
    rcases hi with rfl | rfl | rfl | rfl | rfl | rfl | rfl | rfl | rfl | rfl <;> rfl
   refine Hy.seg hE o11 0 Yeh Y5 e7 m7 (fun a7 w7 Y7 => ?_)
   obtain ⟨o2, j4, jc⟩ := Zdk Y9c
   obtain ⟨u1, u2, u3⟩ := Zvt jc
   refine Y7.update Y2k j4 u1 u2 u3 (k := vk v) rfl hh j8 jh jb (fun a8 w8 es8 cl8 h8 Y8 => ?_)
   rw [Y5g] at h8
   exact qn j0 U7 a8 w8 es8 cl8 Y8 F7 h8
theorem Yct (O : ProgOk Tryz.prog pr) (S : Nat -> Prop) (w0 : World) (t : Tab) (H : OnceOk t) (k : Nat) (c : ColV) (hk : k < (Z9 t).length) (j : Nat) (hj : j <= t.rows.length) (keys : List Val) (km cl : Nat) (es : Array MapEntry) (hh : Holds [0, 0, 1] es.toList (keys.map vk)) (U : St) (a : Act) (w : World)
 (Y : HyO S w0 (some (km, es, cl)) U a w) (F : F5 t k c km j U) (R : List Val ⊕ Unit) (hR : Zv (Zni c) j keys ((Vj t k).drop j) = R) {Q : Exit -> Act -> World -> Prop}
 (qr : R = .inr () -> ∀ U a w, HyO S w0 none U a w -> U.s 2 = .q false -> Q .ret a w)
 (qn : (∃ ks, R = .inl ks) -> ∀ U a w, HyO S w0 none U a w -> F3 t k c U -> Q (.exit 2) a w) :
 (Go.Code.loop (Z8a (Yu (Ye (Yt Tryz.f172) 100) 100) 9)).wp Tryz.prog Q a w := by
 have hE := Zfd O 8
 have j1 := O.shr 8
 have j3 : (Vj t k).length = t.rows.length := by simp [Vj]
 refine wp_loop_ghost (fun m a w => ∃ j keys U km cl es, m + j = t.rows.length /\ Holds [0, 0, 1] es.toList (keys.map vk) /\ HyO S w0 (some (km, es, cl)) U a w /\ F5 t k c km j U /\ Zv (Zni c) j keys ((Vj t k).drop j) = R) (t.rows.length - j) ⟨j, keys, U, km, cl, es, by omega, hh, Y, F, hR⟩ ?_
 clear hR F Y hh hj
 rintro m a w ⟨j, keys, U, km, cl, es, hm, hh, Y, F, hR⟩
 rw [Y63]
 refine wp_seq ?_
 obtain ⟨U1, e1, j0, j4⟩ := ev6 t k c km j U F
 refine Y.code hE j1 orders (by kernel_rfl : Yi Tryz.prog 47 o6 (Yu (Z8a (Yu (Ye (Yt Tryz.f172) 100) 100) 9) 2) = true) e1 j0.f3.base (fun ex a1 w1 hs Y1 => ?_)
 cases ex <;> simp only [Zx] at hs
 simp only [Exit.then, Out.st] at Y1 ⊢
 refine wp_seq (wp_cond (Y1.bool j4) ?_)
 by_cases hj : j < t.rows.length
 . simp only [hj, decide_true, if_true]
   refine wp_skip ?_
   simp only [Exit.then]
   refine wp_seq (wp_block ?_)
   have hr : t.rows[j]? = some t.rows[j] := dS hj
   have hv : (Vj t k)[j]? = some ((Wf t t.rows[j]).getD k zV) := by simp [Vj, hr]
   have hd : (Vj t k).drop j = (Wf t t.rows[j]).getD k zV :: (Vj t k).drop (j + 1) := by
    rw [List.drop_eq_getElem_cons (by omega)]
    congr 1
    exact (dU.1 hv).2
   rw [hd] at hR
   unfold Zv at hR
   generalize t.rows[j] = r at hr hR
   refine Y6r O S w0 t H k c hk j r hr keys km cl es hh U1 a1 w1 Y1 j0 (fun hg U a w Yr s2 => ?_) (fun hg U a w es cl Yn Fn j2 => ?_)
   . rw [hg] at hR
     simp only [Exit.inBlock, Exit.then]
     exact qr hR.symm U a w Yr s2
   . rw [hg] at hR
     simp only [Exit.inBlock, Exit.then]
     obtain ⟨U2, e2, F2⟩ := Yeu t k c km j (by have := H.small.rlen; omega) U Fn
     refine Yn.code hE j1 orders Yed e2 F2.f3.base (fun ex a2 w2 hs Y2 => ?_)
     cases ex <;> simp only [Zx] at hs
     simp only [Exit.then, Out.st] at Y2 ⊢
     exact ⟨m - 1, by omega, j + 1, _, U2, km, cl, es, by omega, j2, Y2, F2, hR⟩
 . simp only [hj, decide_false, eH, if_false]
   refine wp_exit ?_
   simp only [Exit.then]
   have hd : (Vj t k).drop j = [] := gH (by omega)
   rw [hd] at hR
   exact qn ⟨keys, hR.symm⟩ U1 a1 w1 Y1.drop j0.f3
theorem Ych (O : ProgOk Tryz.prog pr) (S : Nat -> Prop) (w0 : World) (t : Tab) (H : OnceOk t) (U : St) (a : Act) (w : World) (Y : HyO S w0 none U a w) (F : F1 t U) (h12 : U.s 12 = .n (0 : Nat)) (R : Unit ⊕ Unit) (hR : Zv (Zt7 t) 0 () (Z9 t) = R) {Q : Exit -> Act -> World -> Prop}
 (qr : R = .inr () -> ∀ U a w, HyO S w0 none U a w -> U.s 2 = .q false -> Q .ret a w)
 (qn : R = .inl () -> ∀ U a w, HyO S w0 none U a w -> F1 t U -> Q (.exit 0) a w) (hsl : (Z9 t).length <= big) :
 (Go.Code.loop (Ye (Yt Tryz.f172) 100)).wp Tryz.prog Q a w := by
 have hE := Zfd O 8
 have j0 := O.shr 8
 refine wp_loop_ghost (fun m a w => ∃ k U, m + k = (Z9 t).length /\ HyO S w0 none U a w /\ F1 t U /\ U.s 12 = .n (k : Nat) /\ Zv (Zt7 t) k () ((Z9 t).drop k) = R) (Z9 t).length ⟨0, U, by omega, Y, F, h12, by rw [dI]; exact hR⟩ ?_
 clear hR F Y h12
 rintro m a w ⟨k, U, hm, Y, F, h12, hR⟩
 rw [Y4r]
 refine wp_seq ?_
 obtain ⟨U1, e1, j1, j3, j4⟩ := ev2 t k U F h12
 refine Y.code hE j0 orders oq2 e1 j1.base (fun ex a1 w1 hs Y1 => ?_)
 cases ex <;> simp only [Zx] at hs
 simp only [Exit.then, Out.st] at Y1 ⊢
 refine wp_seq (wp_cond (Y1.bool j4) ?_)
 by_cases hk : k < (Z9 t).length
 . simp only [hk, decide_true, if_true]
   refine wp_skip ?_
   simp only [Exit.then]
   refine wp_seq (wp_block ?_)
   have hc : (Z9 t)[k]? = some (Z9 t)[k] := dS hk
   have hd : (Z9 t).drop k = (Z9 t)[k] :: (Z9 t).drop (k + 1) := List.drop_eq_getElem_cons hk
   rw [hd] at hR
   generalize (Z9 t)[k] = c at hc hR
   unfold Zv at hR
   rw [Y81]
   refine wp_seq ?_
   obtain ⟨U2, e2, F2⟩ := ev3 t k c hc U1 j1 j3
   refine Y1.code hE j0 orders oq3 e2 F2.base (fun ex a2 w2 hs Y2 => ?_)
   cases ex <;> simp only [Zx] at hs
   simp only [Exit.then, Out.st] at Y2 ⊢
   refine wp_seq (wp_region ?_)
   rw [l4]
   show wpOps Tryz.prog (Z0d (Z8a (Yu (Ye (Yt Tryz.f172) 100) 100) 4)) _ (0 :: (List.range' 1 o4b.length ++ [])) a2 w2
   obtain ⟨o, ho, hp⟩ := Zdk Ybs
   obtain ⟨j5, j6, j7⟩ := Zsd hp
   refine Y2.make ho j5 j7 (by decide) j6 (fun a3 w3 km Y3 => ?_)
   obtain ⟨U4, e4, F4, m4, s5⟩ : ∃ U', Ze ⟨den pr 8, dcl pr 8, dfl pr 8⟩ 0 o4b { U2 with s := upd U2.s 17 (.v (.map (some km))) } = some U' /\ F3 t k c U' /\ U'.n = U2.n /\ U'.s 5 = .v (.map (some km)) := by
    obtain ⟨s, h, n, b⟩ := U2
    have hb := F2.base
    simp only at hb
    subst hb
    simp only [o4b, go_sem]
    refine ⟨_, rfl, F2.step rfl (dO _) (fun i hi => ?_) (fun i _ => rfl), rfl, rfl⟩
    simp only [eK, fP, or_false] at hi
    rcases hi with rfl | rfl | rfl | rfl | rfl | rfl <;> rfl
   refine Hy.seg hE o4b 1 Ydz Y3 e4 m4 (fun a4 w4 Y4 => ?_)
   show Exit.then _ _ .normal a4 w4
   simp only [Exit.then]
   refine wp_seq ?_
   obtain ⟨U5, e5, j2⟩ := ev5 t k c km U4 F4 s5
   refine Y4.code hE j0 orders oq5 e5 j2.f3.base (fun ex a5 w5 hs Y5 => ?_)
   cases ex <;> simp only [Zx] at hs
   simp only [Exit.then, Out.st] at Y5 ⊢
   refine wp_block ?_
   refine Yct O S w0 t H k c hk 0 (dG _) [] km 0 #[] ⟨rfl, fun i e k h => by simp at h⟩ U5 a5 w5 Y5 j2 _ rfl (fun hr U a w Yr s2 => ?_) (fun hn U a w Yn Fn => ?_)
   . rw [dI] at hr
     have : Zzn c (Vj t k) = false := by unfold Zzn; rw [hr]
     unfold Zt7 at hR
     rw [this] at hR
     simp only [Exit.inBlock, Exit.then]
     exact qr hR.symm U a w Yr s2
   . rw [dI] at hn
     obtain ⟨ks, hn⟩ := hn
     have : Zzn c (Vj t k) = true := by unfold Zzn; rw [hn]
     unfold Zt7 at hR
     rw [this] at hR
     simp only [Exit.inBlock, Exit.then, if_true]
     obtain ⟨U6, e6, F6, g6⟩ := Ye7 t k c (by omega) U Fn
     refine Yn.code hE j0 orders Yes e6 F6.base (fun ex a6 w6 hs Y6 => ?_)
     cases ex <;> simp only [Zx] at hs
     simp only [Exit.then, Out.st] at Y6 ⊢
     exact ⟨m - 1, by omega, k + 1, U6, by omega, Y6, F6, g6, hR⟩
 . simp only [hk, decide_false, eH, if_false]
   refine wp_exit ?_
   simp only [Exit.then]
   have hd : (Z9 t).drop k = [] := gH (by omega)
   rw [hd] at hR
   exact qn hR.symm U1 a1 w1 Y1 j1
theorem Zsb (O : ProgOk Tryz.prog pr) {S : Nat -> Prop} {w : World} (hS : ∀ k, S k -> k < w.heap.size) (hG : GlobOk Tryz.prog S w) (t : Tab) (H : OnceOk t) {xs : List Value} (r : RL Tryz.prog Yy S w [.agg t.c] xs) :
 Calls Tryz.prog 172 xs.toArray w fun | .returned v, w' => Res Tryz.prog S w [.q (Zp0 t)] v w' | _, _ => False := by
 obtain ⟨x, j8, rfl, rx, rt⟩ := r.inv_cons
 have j3 := rt.inv_nil
 subst j3
 refine calls_of_wp Tryz.func172 Y5z ?_
 have hE := Zfd O 8
 have j0 := O.shr 8
 have Y0 : HyO S w none ⟨slots [.agg t.c], fun _ => none, 0, 0⟩ { tmps := [x].toArray ++ Array.replicate (Tryz.f172.ntmps - [x].toArray.size) undef, defers := [] } w := Hy.start hS hG r (by rw [Zvx]; simp)
 refine wp_seq ?_
 obtain ⟨U0, e0, b0, n0, h1, h0⟩ := ev0 ⟨den pr 8, dcl pr 8, dfl pr 8⟩ t
 refine Y0.code hE j0 orders oq0 e0 b0 (fun ex a1 w1 hs Y1 => ?_)
 cases ex <;> simp only [Zx] at hs
 simp only [Exit.then, Out.st] at Y1 ⊢
 refine wp_seq (wp_seq ?_)
 obtain ⟨U1, e1, j2, j4⟩ := ev1 t H U0 b0 n0 h1 h0
 refine Y1.code hE j0 orders oq1 e1 j2.base (fun ex a2 w2 hs Y2 => ?_)
 cases ex <;> simp only [Zx] at hs
 simp only [Exit.then, Out.st] at Y2 ⊢
 refine wp_block ?_
 have j5 : (Z9 t).length <= big := by
  obtain ⟨s', j1⟩ := eW.1 H.all
  unfold Z9
  rw [j1]
  have := (Z2c ⟨H.small.cols, H.small.clen⟩ j1).2
  simp only [dD]; omega
 have done : ∀ (U : St) (b : Bool) (a : Act) (w' : World), HyO S w none U a w' -> U.s 2 = .q b -> bodyPost Tryz.prog Tryz.f172 (fun | .returned v, w' => Res Tryz.prog S w [.q b] v w' | _, _ => False) .ret a w' := fun U b a w' Yd s2 => by
  have j7 : Hy Tryz.prog S w Tryz.f172.ntmps none U a w' := by rw [Zvx]; exact Yd
  exact j7.done Ya8 (ra := [.q b]) (by simp only [go_sem, s2]) rfl
 refine Ych O S w t H U1 a2 w2 Y2 j2 j4 _ rfl (fun hr U a w' Yr s2 => ?_) (fun hn U a w' Yn Fn => ?_) j5
 . have hB : Zp0 t = false := by unfold Zp0; rw [hr]
   rw [hB]
   simp only [Exit.inBlock, Exit.then]
   exact done U false a w' Yr s2
 . have hB : Zp0 t = true := by unfold Zp0; rw [hn]
   rw [hB]
   simp only [Exit.inBlock, Exit.then, if_true]
   obtain ⟨U3, e3, b3, j6⟩ : ∃ U', Zj ⟨den pr 8, dcl pr 8, dfl pr 8⟩ o14 U = some (.ret U') /\ U'.base = 0 /\ U'.s 2 = .q true := by
    obtain ⟨s, h, n, b⟩ := U
    have hb := Fn.base
    simp only at hb
    subst hb
    simp only [o14, go_sem]
    exact ⟨_, rfl, rfl, rfl⟩
   refine Yn.code hE j0 orders Yec e3 b3 (fun ex a3 w3 hs Y3 => ?_)
   cases ex <;> simp only [Zx] at hs
   simp only [Out.st] at Y3 ⊢
   exact done U3 true a3 w3 Y3 j6
end Go.Vm.T
namespace Go.Vm.T
open Go.RowKit Go.Proofs
def Z40 (B : Go.Code) : Nat -> Go.Code
 | 0 => Zh3 B
 | 1 => Zh3 (Z7m B)
 | 2 => Zh3 (Z7m (Z7m B))
 | 3 => Zh3 (Zh3 (Z7m (Z7m (Z7m B))))
 | 4 => Ydn (Z7m (Zh3 (Z7m (Z7m (Z7m B)))))
 | _ => Z7m (Z7m (Z7m (Z7m B)))
theorem Y6k : Tryz.f264.body = some (.seq (Z40 (Yt Tryz.f264) 0) (.seq (Z40 (Yt Tryz.f264) 1) (.seq (Z40 (Yt Tryz.f264) 2) (.seq (.seq (.region 3 (Z0d (Z40 (Yt Tryz.f264) 3)) false) (.cond (.tmp 25) (Z40 (Yt Tryz.f264) 4) .skip)) (Z40 (Yt Tryz.f264) 5))))) := by kernel_rfl
def g0 : ACode := .sq (.rg 1 false [.o (.al 2 0 Z2 [(.v (.int .i64 0)), (.v (.int .i64 0)), (.v (.string ⟨#[]⟩))])]) .sk
def n0 : ACode := (.rg 1 false [.o (.al 2 0 Z2 [(.v (.int .i64 0)), (.v (.int .i64 0)), (.v (.string ⟨#[]⟩))])])
def n1 : ACode := (.rg 0 false [.o (.mv 7 (.t 0)), .o (.call (some 8) 0 0 Z0x [(.t 7)]), .o (.mv 6 (.t 8)), .o (.ex 9 (.t 6) 0), .o (.ex 10 (.t 6) 1), .o (.mv 3 (.t 9)), .o (.mv 4 (.t 10))])
def n2 : ACode := (.rg 1 false [.o (.mv 11 (.t 3)), .o (.bld 12 0 [(.v (.int .i64 0)), (.v (.int .i64 0)), (.v (.string ⟨#[]⟩))] [(0, 1, (.k (.v (.int .i64 1)))), (1, 1, (.t 11))]), .o (.al 5 0 Z2 [(.v (.int .i64 0)), (.v (.int .i64 0)), (.v (.string ⟨#[]⟩))]), .o (.st 3 (.t 5) (.t 12))])
def n3a : List G := [.o (.mv 13 (.t 4))]
def n3b : List G := [.o (.mv 15 (.t 14)), .g 15 false (.ld 16 3 true (.t 5)), .g 15 false (.call (some 17) 0 0 Wx [(.t 16)]), .g 15 false (.un 18 .not (.t 17)), .o (.pick 19 (.t 15) (.k (.v (.bool true))) (.t 18)), .o (.mv 20 (.t 19)), .g 20 false (.mv 21 (.t 3)), .g 20 false (.call (some 22) 0 0 V2 [(.t 21)]), .g 20 false (.mv 23 (.t 0)), .g 20 false (.bin 24 .neq (.t 22) (.t 23)), .o (.pick 25 (.t 20) (.k (.v (.bool true))) (.t 24))]
def n4 : ACode := (.sq (.rg 0 false [.o (.bld 26 0 [(.v (.int .i64 0)), (.v (.int .i64 0)), (.v (.string ⟨#[]⟩))] []), .o (.st 3 (.t 2) (.t 26))]) .rt)
def n5 : ACode := (.sq (.rg 0 false [.o (.ld 27 3 true (.t 5)), .o (.st 3 (.t 2) (.t 27))]) .rt)
theorem ok0 : Yi Tryz.prog 28 n0 (Z40 (Yt Tryz.f264) 0) = true := by kernel_rfl
theorem ok1 : Yi Tryz.prog 28 n1 (Z40 (Yt Tryz.f264) 1) = true := by kernel_rfl
theorem ok2 : Yi Tryz.prog 28 n2 (Z40 (Yt Tryz.f264) 2) = true := by kernel_rfl
theorem Ydy : Zdc Tryz.prog 28 (Z0d (Z40 (Yt Tryz.f264) 3)) 0 n3a = true := by kernel_rfl
theorem Yet : Zdc Tryz.prog 28 (Z0d (Z40 (Yt Tryz.f264) 3)) 2 n3b = true := by kernel_rfl
theorem ok4 : Yi Tryz.prog 28 n4 (Z40 (Yt Tryz.f264) 4) = true := by kernel_rfl
theorem ok5 : Yi Tryz.prog 28 n5 (Z40 (Yt Tryz.f264) 5) = true := by kernel_rfl
theorem Ydo : (Z0d (Z40 (Yt Tryz.f264) 3)).size = 13 := by kernel_rfl
def Zhz (o : Oper) : Bool := (match o.op with | .binOp .neq 271 (.tmp 13) (.const .nilIface) _ => true | _ => false) && o.guard.isNone && decide (o.dst = some 14)
theorem Ybe : Y7e (Z0d (Z40 (Yt Tryz.f264) 3)) 1 Zhz = true := by kernel_rfl
theorem Y32 : Z9y Tryz.prog Tryz.f264.results.toList [.cell 2 3 true] = true := by kernel_rfl
theorem Y5u : Tryz.f264.ntmps = 28 := by kernel_rfl
theorem Zku {o : Oper} (h : Zhz o = true) : ∃ ty, o.op = .binOp .neq 271 (.tmp 13) (.const .nilIface) ty /\ o.guard = none /\ o.dst = some 14 := by
 unfold Zhz at h
 simp only [dQ, eJ, fZ] at h
 obtain ⟨⟨h1, h2⟩, h3⟩ := h
 split at h1
 . rename_i ty ho
   exact ⟨ty, ho, h2, h3⟩
 . cases h1
variable [Pr0]
theorem Zsr {t : ByteArray} {n : Int} (hl : t.size <= 18) (h : Lib.atoi t.data.toList = some n) : -9223372036854775808 <= n /\ n <= 9223372036854775807 := by
 obtain ⟨b0, r, e, hc⟩ := Lib.atoi_cases h
 have j0 : t.data.toList.length <= 18 := by simpa using hl
 rw [e] at j0
 have hr : r.length <= 18 := by simp at j0; omega
 rcases hc with ⟨_, m, _, h1, rfl⟩ | ⟨_, m, _, h1, rfl⟩ | ⟨_, _, m, h1, rfl⟩
 . have := Lib.decFrom_lt18 h1 hr; omega
 . have := Lib.decFrom_lt18 h1 hr; omega
 . have := Lib.decFrom_lt18 h1 j0; omega
theorem Zy6 {a b : ByteArray} (h : a.data = b.data) : a = b := by cases a; cases b; simp at h; rw [h]
theorem Zq5 (n : Int) (t : ByteArray) : Z9a n = t ↔ Lib.itoa n = t.data.toList := by
 unfold Z9a
 constructor
 . intro h; rw [<- h]
 . intro h; exact Zy6 (by show (Lib.itoa n).toArray = t.data; rw [h])
theorem Y37 (n : Int) : inB n (-999) 999 = true ↔ -999 <= n /\ n <= 999 := by simp [inB]
theorem Zkd (O : ProgOk Tryz.prog pr) : Z9f Tryz.prog Ztw 264 /\ Z9z Tryz.prog 264 := by
 refine ⟨fun S w zs rs xs he hS hG r => ?_, ⟨_, Tryz.func264, by kernel_rfl, by kernel_rfl⟩⟩
 unfold Ztw at he
 split at he
 . rename_i t
   split at he
   . rename_i jv
     simp only [dM] at he
     subst he
     obtain ⟨x, jy, rfl, rx, rt⟩ := r.inv_cons
     have js := rt.inv_nil
     subst js
     refine calls_of_wp Tryz.func264 Y6k ?_
     have hE := Zfd O 3
     have j5 := O.shr 3
     have H0 : Hy Tryz.prog S w 28 none ⟨slots [.s t], fun _ => none, 0, 0⟩ { tmps := [x].toArray ++ Array.replicate (Tryz.f264.ntmps - [x].toArray.size) undef, defers := [] } w := Hy.start hS hG (.cons rx .nil) (by rw [Y5u]; simp)
     refine wp_seq (H0.code hE j5 orders ok0 (out := .norm ⟨upd (slots [.s t]) 2 (.ptr 0 0 0), upd (fun _ => none) 0 (some ⟨Z2, [[.n 0, .n 0, .s ⟨#[]⟩]], true, true⟩), 1, 0⟩) (by simp only [n0, go_sem]) rfl (fun ex a1 w1 hs H1 => ?_))
     cases ex <;> simp only [Zx] at hs
     simp only [Exit.then, Out.st] at H1 ⊢
     refine wp_seq ?_
     have hA : den pr 3 Z0x [.s t] = Zm6 [.s t] := Zg0 2 _
     have j0 : t.size <= 18 := jv
     obtain ⟨n, er, ji, jb, hn⟩ : ∃ (n : Int) (er : A), Zm6 [.s t] = some [.n n, er] /\ ((er = .v .nilIface /\ Lib.atoi t.data.toList = some n) \/ (er = .err /\ Lib.atoi t.data.toList = none)) /\ -9223372036854775808 <= n /\ n <= 9223372036854775807 := by
      cases hq : Lib.atoi t.data.toList with
      | none => exact ⟨0, .err, by simp only [Zm6, j0, if_true, hq], .inr ⟨rfl, rfl⟩, by omega, by omega⟩
      | some n => exact ⟨n, .v .nilIface, by simp only [Zm6, j0, if_true, hq], .inl ⟨rfl, rfl⟩, Zsr j0 hq⟩
     obtain ⟨U1, e1, b1, m1, s10, s12, jf, jp, jj⟩ : ∃ U', Zj ⟨den pr 3, dcl pr 3, dfl pr 3⟩ n1 ⟨upd (slots [.s t]) 2 (.ptr 0 0 0), upd (fun _ => none) 0 (some ⟨Z2, [[.n 0, .n 0, .s ⟨#[]⟩]], true, true⟩), 1, 0⟩ = some (.norm U') /\ U'.base = 0 /\ U'.n = 1 /\ U'.s 0 = .s t /\ U'.s 2 = .ptr 0 0 0 /\ U'.s 3 = .n n /\ U'.s 4 = er /\ U'.h 0 = some ⟨Z2, [[.n 0, .n 0, .s ⟨#[]⟩]], true, true⟩ := by
      rcases jb with ⟨rfl, _⟩ | ⟨rfl, _⟩
      . simp only [n1, go_sem, hA, ji]
        exact ⟨_, rfl, rfl, rfl, rfl, rfl, rfl, rfl, rfl⟩
      . simp only [n1, go_sem, hA, ji]
        exact ⟨_, rfl, rfl, rfl, rfl, rfl, rfl, rfl, rfl⟩
     refine H1.code hE j5 orders ok1 e1 b1 (fun ex a2 w2 hs H2 => ?_)
     cases ex <;> simp only [Zx] at hs
     simp only [Exit.then, Out.st] at H2 ⊢
     refine wp_seq ?_
     obtain ⟨U2, e2, b2, m2, s20, jr, jh, jo, jq, jm, jl⟩ : ∃ U', Zj ⟨den pr 3, dcl pr 3, dfl pr 3⟩ n2 U1 = some (.norm U') /\ U'.base = 0 /\ U'.n = 2 /\ U'.s 0 = .s t /\ U'.s 2 = .ptr 0 0 0 /\ U'.s 3 = .n n /\ U'.s 4 = er /\ U'.s 5 = .ptr 1 0 0 /\ U'.h 0 = some ⟨Z2, [[.n 0, .n 0, .s ⟨#[]⟩]], true, true⟩ /\ U'.h 1 = some ⟨Z2, [[.n 1, .n n, .s ⟨#[]⟩]], true, true⟩ := by
      obtain ⟨s, h, m, b⟩ := U1
      simp only at b1 m1 s10 s12 jf jp jj
      subst b1; subst m1
      simp only [n2, go_sem, jf]
      exact ⟨_, rfl, rfl, rfl, s10, s12, jf, jp, rfl, jj, rfl⟩
     refine H2.code hE j5 orders ok2 e2 b2 (fun ex a3 w3 hs H3 => ?_)
     cases ex <;> simp only [Zx] at hs
     simp only [Exit.then, Out.st] at H3 ⊢
     refine wp_seq (wp_seq ?_)
     refine wp_region ?_
     rw [Ydo]
     show wpOps Tryz.prog (Z0d (Z40 (Yt Tryz.f264) 3)) _ (List.range' 0 n3a.length ++ (1 :: (List.range' 2 n3b.length ++ []))) a3 w3
     obtain ⟨U3, e3, b3, m3, j9, j8, j6, j2, jg, j7, j1⟩ : ∃ U', Ze ⟨den pr 3, dcl pr 3, dfl pr 3⟩ 0 n3a U2 = some U' /\ U'.base = 0 /\ U'.n = 2 /\ U'.s 0 = .s t /\ U'.s 2 = .ptr 0 0 0 /\ U'.s 3 = .n n /\ U'.s 5 = .ptr 1 0 0 /\ U'.s 13 = er /\ U'.h 0 = some ⟨Z2, [[.n 0, .n 0, .s ⟨#[]⟩]], true, true⟩ /\ U'.h 1 = some ⟨Z2, [[.n 1, .n n, .s ⟨#[]⟩]], true, true⟩ := by
      obtain ⟨s, h, m, b⟩ := U2
      simp only at b2 m2 s20 jr jh jo jq jm jl
      subst b2; subst m2
      simp only [n3a, go_sem, jo]
      exact ⟨_, rfl, rfl, rfl, s20, jr, jh, jq, rfl, jm, jl⟩
     refine Hy.seg hE n3a 0 Ydy H3 e3 (by rw [m3, m2]) (fun a4 w4 H4 => ?_)
     obtain ⟨o, ho, hp⟩ := Zdk Ybe
     obtain ⟨ty, jx, jt, jw⟩ := Zku hp
     obtain ⟨b, hb⟩ : ∃ b, (U3.s 13 = .v .nilIface /\ b = false) \/ (U3.s 13 = .err /\ b = true) := by
      rw [jg]
      rcases jb with ⟨rfl, _⟩ | ⟨rfl, _⟩
      . exact ⟨_, .inl ⟨rfl, rfl⟩⟩
      . exact ⟨_, .inr ⟨rfl, rfl⟩⟩
     refine H4.neqNil (by kernel_rfl) ho jx jt jw (by decide) hb (fun a5 H5 => ?_)
     have j4 : (b = true /\ Zt8 t = (0, 0)) \/ (b = false /\ Zt8 t = if -999 <= n /\ n <= 999 /\ Lib.itoa n = t.data.toList then (1, n) else (0, 0)) := by
      rw [jg] at hb
      rcases jb with ⟨rfl, hq⟩ | ⟨rfl, hq⟩
      . rcases hb with ⟨_, rfl⟩ | ⟨h, _⟩
        . exact .inr ⟨rfl, by simp only [Zt8, hq]⟩
        . cases h
      . rcases hb with ⟨h, _⟩ | ⟨_, rfl⟩
        . cases h
        . exact .inl ⟨rfl, by simp only [Zt8, hq]⟩
     have hI : den pr 3 V2 [.n n] = some [.s (Z9a n)] := by
      rw [Zaa]; simp only [Zt4, hn, and_self, if_true]
     have hV : den pr 3 Wx [.agg [.n 1, .n n, .s ⟨#[]⟩]] = some [.q (inB n (-999) 999)] := by
      have := Zff (D := 3) (by omega) ⟨1, n, ⟨#[]⟩⟩ (by show (0 : Nat) <= big; omega)
      rw [this]
      simp [Z1b]
     obtain ⟨q, U5, e5, b5, m5, j3, je, ju, ja, jd, hq⟩ : ∃ q U', Ze ⟨den pr 3, dcl pr 3, dfl pr 3⟩ 0 n3b { U3 with s := upd U3.s 14 (.q b) } = some U' /\ U'.base = 0 /\ U'.n = 2 /\ U'.s 2 = .ptr 0 0 0 /\ U'.s 5 = .ptr 1 0 0 /\ U'.s 25 = .q q /\ U'.h 0 = some ⟨Z2, [[.n 0, .n 0, .s ⟨#[]⟩]], true, true⟩ /\ U'.h 1 = some ⟨Z2, [[.n 1, .n n, .s ⟨#[]⟩]], true, true⟩ /\ Zt8 t = (if q then (0, 0) else (1, n)) := by
      obtain ⟨s, h, m, bs⟩ := U3
      simp only at b3 m3 j9 j8 j6 j2 jg j7 j1
      subst b3; subst m3
      rcases j4 with ⟨rfl, hN⟩ | ⟨rfl, hN⟩
      . simp only [n3b, go_sem, j9, j6, j2, j1, hV, hI]
        exact ⟨true, _, rfl, rfl, rfl, j8, j2, rfl, j7, j1, by simp [hN]⟩
      . cases hi : inB n (-999) 999 with
        | false =>
          rw [hi] at hV
          simp only [n3b, go_sem, j9, j6, j2, j1, hV, hI]
          refine ⟨true, _, rfl, rfl, rfl, j8, j2, rfl, j7, j1, ?_⟩
          rw [hN, if_neg]
          . simp
          . intro h
            have := (Y37 n).2 ⟨h.1, h.2.1⟩
            rw [hi] at this; cases this
        | true =>
          rw [hi] at hV
          have jn := (Y37 n).1 hi
          simp only [n3b, go_sem, j9, j6, j2, j1, hV, hI]
          refine ⟨!decide (Z9a n = t), _, rfl, rfl, rfl, j8, j2, rfl, j7, j1, ?_⟩
          rw [hN]
          by_cases h : Z9a n = t
          . rw [if_pos ⟨jn.1, jn.2, (Zq5 n t).1 h⟩]; simp [h]
          . rw [if_neg (fun q => h ((Zq5 n t).2 q.2.2))]; simp [h]
     refine Hy.seg hE n3b 2 Yet H5 e5 (by rw [m5]; exact m3.symm) (fun a6 w6 H6 => ?_)
     show Exit.then _ _ .normal a6 w6
     simp only [Exit.then]
     refine wp_cond (H6.bool ju) ?_
     cases q with
     | true =>
       simp only [if_true]
       obtain ⟨U7, e7, b7, jc, h7⟩ : ∃ U', Zj ⟨den pr 3, dcl pr 3, dfl pr 3⟩ n4 U5 = some (.ret U') /\ U'.base = 0 /\ U'.s 2 = .ptr 0 0 0 /\ U'.h 0 = some ⟨Z2, [[.n 0, .n 0, .s ⟨#[]⟩]], true, true⟩ := by
        obtain ⟨s, h, m, b⟩ := U5
        simp only at b5 m5 j3 je ja jd
        subst b5; subst m5
        simp only [n4, go_sem, j3, ja]
        exact ⟨_, rfl, rfl, j3, rfl⟩
       refine H6.code hE j5 orders ok4 e7 b7 (fun ex a7 w7 hs H7 => ?_)
       cases ex <;> simp only [Zx] at hs
       simp only [Exit.then, Out.st] at H7 ⊢
       rw [hq]
       exact H7.done Y32 (ra := [.agg [.n 0, .n 0, .s ⟨#[]⟩]]) (by simp only [go_sem, jc, h7]) rfl
     | false =>
       simp only [eH, if_false]
       refine wp_skip ?_
       simp only [Exit.then]
       obtain ⟨U7, e7, b7, jc, h7⟩ : ∃ U', Zj ⟨den pr 3, dcl pr 3, dfl pr 3⟩ n5 U5 = some (.ret U') /\ U'.base = 0 /\ U'.s 2 = .ptr 0 0 0 /\ U'.h 0 = some ⟨Z2, [[.n 1, .n n, .s ⟨#[]⟩]], true, true⟩ := by
        obtain ⟨s, h, m, b⟩ := U5
        simp only at b5 m5 j3 je ja jd
        subst b5; subst m5
        simp only [n5, go_sem, j3, je, ja, jd]
        exact ⟨_, rfl, rfl, j3, rfl⟩
       refine H6.code hE j5 orders ok5 e7 b7 (fun ex a7 w7 hs H7 => ?_)
       cases ex <;> simp only [Zx] at hs
       simp only [Out.st] at H7 ⊢
       rw [hq]
       exact H7.done Y32 (ra := [.agg [.n 1, .n n, .s ⟨#[]⟩]]) (by simp only [go_sem, jc, h7]) rfl
   . cases he
 . cases he
end Go.Vm.T
namespace Go.Vm.T
open Go.RowKit Go.Proofs
theorem Zto {a b : Val} (h : a.c = b.c) : a = b := by
 obtain ⟨k, n, t⟩ := a
 obtain ⟨k', n', t'⟩ := b
 simp only [Val.c, List.cons.injEq, A.v.injEq, Value.int.injEq, Value.string.injEq, true_and, and_true] at h
 obtain ⟨rfl, rfl, rfl⟩ := h
 rfl
theorem Y4q {a b : ColV} (h : a.c = b.c) : a = b := by
 obtain ⟨nm, k, need, once, ⟨dk, dn, dt⟩⟩ := a
 obtain ⟨j5, k', j1, j0, ⟨j3, j4, j2⟩⟩ := b
 simp only [ColV.c, List.cons.injEq, A.v.injEq, Value.int.injEq, Value.string.injEq, Value.bool.injEq, true_and, and_true] at h
 obtain ⟨rfl, rfl, rfl, rfl, rfl, rfl, rfl⟩ := h
 rfl
theorem Y4v {a b : Chg} (h : a.c = b.c) : a = b := by
 obtain ⟨ck, ja, j7, nm, k, need, once, ⟨dk, dn, dt⟩⟩ := a
 obtain ⟨j6, j3, j2, j9, k', j1, j0, ⟨j5, j8, j4⟩⟩ := b
 simp only [Chg.c, List.cons.injEq, A.v.injEq, Value.int.injEq, Value.string.injEq, Value.bool.injEq, true_and, and_true] at h
 obtain ⟨rfl, rfl, rfl, rfl, rfl, rfl, rfl, rfl, rfl, rfl⟩ := h
 rfl
theorem Zco {V J : Type} {f : V -> J} (hf : ∀ {a b}, f a = f b -> a = b) : ∀ {l m : List V}, l.map f = m.map f -> l = m
 | [], [], _ => rfl
 | [], _ :: _, h => by simp at h
 | _ :: _, [], h => by simp at h
 | a :: l, b :: m, h => by
   simp only [fO, List.cons.injEq] at h
   rw [hf h.1, Zco hf h.2]
theorem Y3m {a b : RowV} (h : a.c = b.c) : a = b := by
 obtain ⟨i, v, vs⟩ := a
 obtain ⟨i', v', j0⟩ := b
 simp only [RowV.c, List.cons.injEq, A.v.injEq, A.lit.injEq, Value.int.injEq, true_and, and_true] at h
 obtain ⟨rfl, rfl, h⟩ := h
 rw [Zco Zto h]
theorem Y5s {a b : Tab} (h : a.c = b.c) : a = b := by
 obtain ⟨f, g, r, n⟩ := a
 obtain ⟨f', g', r', n'⟩ := b
 simp only [Tab.c, List.cons.injEq, A.v.injEq, A.lit.injEq, Value.int.injEq, true_and, and_true] at h
 obtain ⟨h1, h2, h3, rfl⟩ := h
 rw [Zco Y4q h1, Zco Y4v h2, Zco Y3m h3]
open Classical in
noncomputable def Zkf (as1 : List A) : Option (List A) := if h : ∃ t : Tab, as1 = [.agg t.c] /\ OnceOk t then some [.q (Zp0 (Classical.choose h))] else none
theorem Zqv (t : Tab) (H : OnceOk t) : Zkf [.agg t.c] = some [.q (Zp0 t)] := by
 have h : ∃ t' : Tab, [A.agg t.c] = [.agg t'.c] /\ OnceOk t' := ⟨t, rfl, H⟩
 unfold Zkf
 rw [dif_pos h]
 have e := (Classical.choose_spec h).1
 have e2 : t.c = (Classical.choose h).c := by injection e with e _; injection e
 rw [<- Y5s e2]
def prA : Prog := ⟨fun f => Zak f fns, fun f => Zak f Y3e, fun f => Zak f Y7d, fun f => Zak f Zny, fun _ => none, fun f => Zak f Zth⟩
@[reducible] def iA : Pr0 := ⟨prA, fun _ => rfl, fun _ _ => rfl, fun _ => rfl, fun _ => rfl, fun _ _ => rfl, fun _ => rfl⟩
def prB : Prog := ⟨fun f => Zak f fns, fun f => if f = Ys then some Ztw else Zak f Y3e, fun f => Zak f Y7d, fun f => Zak f Zny, fun _ => none, fun f => Zak f Zth⟩
theorem Zjb {f : Nat} (h : f ∉ Y6t) : f ≠ Ys /\ f ≠ Zly := by
 constructor <;> (intro q; subst q; exact h (by decide))
theorem Y3x : prB.ext Ys = some Ztw := rfl
@[reducible] def iB : Pr1 := { pg := prB, fn := fun _ => rfl, ext := fun f h => if_neg (Zjb h).1, ins := fun _ => rfl, dn := fun _ => rfl, hx := fun _ _ => rfl, fl := fun _ => rfl, num := Y3x }
noncomputable def prC : Prog := ⟨fun f => Zak f fns, fun f => if f = Ys then some Ztw else if f = Zly then some Zkf else Zak f Y3e, fun f => Zak f Y7d, fun f => Zak f Zny, fun _ => none, fun f => Zak f Zth⟩
theorem Y54 : prC.ext Ys = some Ztw := rfl
theorem Y1h : prC.ext Zly = some Zkf := rfl
class Pr2 extends Pr1 where
 once : pg.ext Zly = some Zkf
@[reducible] noncomputable def iC : Pr2 := { pg := prC, fn := fun _ => rfl, ext := fun f h => (if_neg (Zjb h).1).trans (if_neg (Zjb h).2), ins := fun _ => rfl, dn := fun _ => rfl, hx := fun _ _ => rfl, fl := fun _ => rfl, num := Y54, once := Y1h }
theorem okA : ProgOk Tryz.prog prA :=
 ⟨orders, fun f fn h => Zwc (f, fn) (Va h), fun f fn h => Zvm (f, fn) (Va h), fun f F h => Zoz (f, F) (Va h), fun f e h => Zp3 (f, e) (Va h), fun f F h => (by cases h), fun f fn h => Zxl (f, fn) (Va h)⟩
theorem okB : ProgOk Tryz.prog prB := by
 refine ⟨orders, fun f fn h => Zwc (f, fn) (Va h), fun f fn h => Zvm (f, fn) (Va h), fun f F h => ?_, fun f e h => Zp3 (f, e) (Va h), fun f F h => (by cases h), fun f fn h => Zxl (f, fn) (Va h)⟩
 have h' : (if f = Ys then some Ztw else Zak f Y3e) = some F := h
 split at h'
 . rename_i hf
   subst hf
   cases h'
   exact @Zkd iA okA
 . exact Zoz (f, F) (Va h')
theorem Y5d : Z9f Tryz.prog Zkf 172 /\ Z9z Tryz.prog 172 := by
 refine ⟨fun S w as1 rs xs he hS hG r => ?_, ⟨_, Tryz.func172, by kernel_rfl, by kernel_rfl⟩⟩
 by_cases h : ∃ t : Tab, as1 = [.agg t.c] /\ OnceOk t
 . obtain ⟨t, rfl, H⟩ := h
   rw [Zqv t H] at he
   cases he
   exact @Zsb iB okB S w hS hG t H xs r
 . unfold Zkf at he
   rw [dif_neg h] at he
   cases he
theorem okC : ProgOk Tryz.prog prC := by
 refine ⟨orders, fun f fn h => Zwc (f, fn) (Va h), fun f fn h => Zvm (f, fn) (Va h), fun f F h => ?_, fun f e h => Zp3 (f, e) (Va h), fun f F h => (by cases h), fun f fn h => Zxl (f, fn) (Va h)⟩
 have h' : (if f = Ys then some Ztw else if f = Zly then some Zkf else Zak f Y3e) = some F := h
 split at h'
 . rename_i hf
   subst hf
   cases h'
   exact @Zkd iA okA
 . split at h'
   . rename_i hf
     subst hf
     cases h'
     exact Y5d
   . exact Zoz (f, F) (Va h')
theorem Yaf [Pr2] {D : Nat} (hD : 1 <= D) (t : Tab) (H : OnceOk t) : den pr D Zly [.agg t.c] = some [.q (Zp0 t)] := by
 obtain ⟨D, rfl, hd⟩ := Zc hD
 rw [Zan Pr2.once]
 exact Zqv t H
end Go.Vm.T
end
