/-
  A function with a map, by hand
-/
import Derived.Test.YtcceojmajfinpaaGreatDoorVmD
import Derived.Test.YtcceojmajfinpaaGreatDoorOk
import Derived.Test.YtcceojmajfinpaaGreatDoorFnsD
import Derived.Test.YtcceojmajfinpaaGreatDoorFnsA
section
set_option linter.unusedVariables false
set_option linter.unusedSectionVars false
set_option linter.unusedSimpArgs false
namespace Go.Vm.T
open Go.RowKit Go.Proofs
theorem Y1j {P : Program} {w : World} {t : TypeId} {k : IntKind} (hd : P.underlying t = some (.int k)) (b : Bool) (n : Nat) (v : Value) : (Instr.checkKey b (n + 1) t v).run P w = .ok () w := by
 unfold Instr.checkKey
 simp only [Sem.run_bind, run_underlying hd, Result.andThen_ok]
 cases v <;> rfl
theorem Y13 {P : Program} {w : World} {t : TypeId} (hd : P.underlying t = some .string) (b : Bool) (n : Nat) (v : Value) : (Instr.checkKey b (n + 1) t v).run P w = .ok () w := by
 unfold Instr.checkKey
 simp only [Sem.run_bind, run_underlying hd, Result.andThen_ok]
 cases v <;> rfl
theorem Zy3 : SetT Tryz.prog 232 43 4 [0, 0, 1] := by
 refine ⟨Tryz.underlying232, by kernel_rfl, by kernel_rfl, ⟨_, Tryz.underlying43⟩, fun b w vs h => ?_, fun w => Tryz.zeroValue4 w⟩
 match vs, h with
 | [x, y, z], _ =>
   have h3 : ∀ v w, (Instr.checkKey b 9999 3 v).run Tryz.prog w = .ok () w := fun v w => Y1j Tryz.underlying3 b 9998 v
   have h9 : ∀ v w, (Instr.checkKey b 9999 9 v).run Tryz.prog w = .ok () w := fun v w => Y13 Tryz.underlying9 b 9998 v
   show (Instr.checkKey b (9999 + 1) 43 (keyV [x, y, z])).run Tryz.prog w = .ok () w
   generalize 9999 = m at *
   unfold Instr.checkKey
   simp only [Sem.run_bind, run_underlying Tryz.underlying43, Result.andThen_ok, keyV]
   simp [h3, h9, Sem.run_bind, part]
def vk (v : Val) : List Value := [.int .i64 v.k, .int .i64 v.n, .string v.t]
theorem Y3n (a b : Val) : Zao [0, 0, 1] (vk a) (vk b) = some (decide (a = b)) := by
 obtain ⟨k, n, t⟩ := a
 obtain ⟨k', n', t'⟩ := b
 simp only [Val.mk.injEq]
 by_cases h1 : k = k' <;> by_cases h2 : n = n' <;> by_cases h3 : t = t' <;> simp [Zao, vk, Yu, Z0a, h1, h2, h3, bnd]
theorem Zqx (v : Val) : ∀ (keys : List Val) (i : Nat), ∃ r, Z5c [0, 0, 1] (vk v) (keys.map vk) i = some r ∧ r.isSome = decide (v ∈ keys)
 | [], i => ⟨none, rfl, by simp⟩
 | x :: xs, i => by
   unfold Z5c
   rw [List.map_cons]
   simp only [Y3n]
   by_cases h : v = x
   · exact ⟨some i, by simp [h], by simp [h]⟩
   · obtain ⟨r, h1, h2⟩ := Zqx v xs (i + 1)
     exact ⟨r, by simp [h, h1], by simp [h, h2]⟩
def addV (keys : List Val) (v : Val) : List Val := if v ∈ keys then keys else keys ++ [v]
theorem Y0l (v : Val) (keys : List Val) : Zeq [0, 0, 1] (keys.map vk) (vk v) = (addV keys v).map vk := by
 obtain ⟨r, h1, h2⟩ := Zqx v keys 0
 unfold Zeq addV
 rw [h1]
 cases r with
 | none =>
   have : v ∉ keys := by simpa using h2.symm
   rw [if_neg this]
   simp
 | some j =>
   have : v ∈ keys := by simpa using h2.symm
   rw [if_pos this]
def oneG (c : ColV) (_ : Nat) (keys : List Val) (v : Val) : List Val ⊕ Unit := if c.once = true ∧ v.k ≠ 0 ∧ v ∈ keys then .inr () else .inl (addV keys v)
def oneB (c : ColV) (vs : List Val) : Bool := match runI (oneG c) 0 [] vs with
 | .inl _ => true
 | .inr _ => false
def Zc (t : Tab) : List ColV := (chgs t.first t.chg).getD []
def Vw (t : Tab) (k : Nat) : List Val := t.rows.map fun r => (nowV t r).getD k zV
def tabG (t : Tab) (k : Nat) (_ : Unit) (c : ColV) : Unit ⊕ Unit := bif oneB c (Vw t k) then .inl () else .inr ()
def tabB (t : Tab) : Bool := match runI (tabG t) 0 () (Zc t) with
 | .inl _ => true
 | .inr _ => false
structure OnceOk (t : Tab) : Prop where
 small : SmallT t
 all : (chgs t.first t.chg).isSome = true
 rows : ∀ r ∈ t.rows, NowOk t r
def Zx (B : Code) : Nat → Code
 | 0 => seqL B
 | 1 => seqL (seqL (seqR B))
 | 100 => Y3p (Zyx (seqR (seqL (seqR B))))
 | _ => seqR (seqR B)
def Yi (b : Code) : Nat → Code
 | 2 => seqL b
 | 100 => Zyx (seqL (seqR (seqR b)))
 | _ => seqR (seqR (seqR b))
def regX (X : Code) : Nat → Code
 | 3 => seqL X
 | 4 => seqL (seqR X)
 | 5 => seqL (seqR (seqR X))
 | _ => Y3p (Zyx (seqR (seqR (seqR X))))
def regY (Y : Code) : Nat → Code
 | 7 => seqL Y
 | 8 => seqL (seqR Y)
 | 9 => seqL (seqL (seqR (seqR Y)))
 | 10 => conT (seqR (seqL (seqR (seqR Y))))
 | _ => seqR (seqR (seqR Y))
theorem Y08 : Tryz.f172.body = some (.seq (Zx (Yj Tryz.f172) 0) (.seq (.seq (Zx (Yj Tryz.f172) 1) (.block 0 (.loop (Zx (Yj Tryz.f172) 100)))) (Zx (Yj Tryz.f172) 9))) := by kernel_rfl
theorem Zyy : Zx (Yj Tryz.f172) 100 = .seq (Yi (Zx (Yj Tryz.f172) 100) 2) (.seq (.cond (.tmp 13) .skip (.exit 0)) (.seq (.block 1 (Yi (Zx (Yj Tryz.f172) 100) 100)) (Yi (Zx (Yj Tryz.f172) 100) 9))) := by kernel_rfl
theorem Y4e : Yi (Zx (Yj Tryz.f172) 100) 100 = .seq (regX (Yi (Zx (Yj Tryz.f172) 100) 100) 3) (.seq (.region 4 (Vy (regX (Yi (Zx (Yj Tryz.f172) 100) 100) 4)) false) (.seq (regX (Yi (Zx (Yj Tryz.f172) 100) 100) 5) (.block 2 (.loop (regX (Yi (Zx (Yj Tryz.f172) 100) 100) 9))))) := by kernel_rfl
theorem Zyw : regX (Yi (Zx (Yj Tryz.f172) 100) 100) 9 = .seq (Yi (regX (Yi (Zx (Yj Tryz.f172) 100) 100) 9) 2) (.seq (.cond (.tmp 22) .skip (.exit 2)) (.seq (.block 3 (Yi (regX (Yi (Zx (Yj Tryz.f172) 100) 100) 9) 100)) (Yi (regX (Yi (Zx (Yj Tryz.f172) 100) 100) 9) 9))) := by kernel_rfl
theorem Y4d : Yi (regX (Yi (Zx (Yj Tryz.f172) 100) 100) 9) 100 = .seq (regY (Yi (regX (Yi (Zx (Yj Tryz.f172) 100) 100) 9) 100) 7) (.seq (regY (Yi (regX (Yi (Zx (Yj Tryz.f172) 100) 100) 9) 100) 8) (.seq (.seq (.region 9 (Vy (regY (Yi (regX (Yi (Zx (Yj Tryz.f172) 100) 100) 9) 100) 9)) false) (.cond (.tmp 42) (regY (Yi (regX (Yi (Zx (Yj Tryz.f172) 100) 100) 9) 100) 10) .skip)) (.region 11 (Vy (regY (Yi (regX (Yi (Zx (Yj Tryz.f172) 100) 100) 9) 100) 11)) false))) := by kernel_rfl
def o0 : ACode := (.rg 1 false [.o (.box 1 0 Zb 4 (.t 0)), .o (.mv 2 (.k (.v (.bool false))))])
def o1 : ACode := (.rg 1 false [.o (.ld 9 4 true (.t 1)), .o (.call (some 10) 0 1 Zh5 [(.t 9)]), .o (.len 11 false (.t 10)), .o (.mv 12 (.k (.v (.int .i64 0))))])
def o2 : ACode := (.rg 0 false [.o (.bin 13 .lss (.t 12) (.t 11))])
def o3 : ACode := (.rg 1 false [.o (.mv 14 (.t 12)), .o (.ia 15 Z0 (.t 10) (.t 12)), .o (.ld 16 7 true (.t 15)), .o (.al 4 0 Z0 [(.v (.string ⟨#[]⟩)), (.v (.int .i64 0)), (.v (.bool false)), (.v (.bool false)), (.v (.int .i64 0)), (.v (.int .i64 0)), (.v (.string ⟨#[]⟩))]), .o (.mv 3 (.t 14)), .o (.st 7 (.t 4) (.t 16))])
def o4b : List G := [.o (.mv 5 (.t 17))]
def o5 : ACode := (.rg 0 false [.o (.fa 18 (.t 1) 2), .o (.ld 19 1 false (.t 18)), .o (.len 20 false (.t 19)), .o (.mv 21 (.k (.v (.int .i64 0))))])
def o6 : ACode := (.rg 0 false [.o (.bin 22 .lss (.t 21) (.t 20))])
def o7 : ACode := (.rg 2 false [.o (.ia 23 Z5 (.t 19) (.t 21)), .o (.ld 24 3 true (.t 23)), .o (.al 7 0 Z5 [(.v (.int .i64 0)), (.v (.int .i64 0)), (.lit Z1 [])]), .o (.st 3 (.t 7) (.t 24))])
def o8 : ACode := (.rg 2 false [.o (.ld 25 4 true (.t 1)), .o (.ld 26 3 true (.t 7)), .o (.call (some 27) 0 1 Zbq [(.t 25), (.t 26)]), .o (.mv 28 (.t 3)), .o (.ia 29 Z1 (.t 27) (.t 28)), .o (.ld 30 3 true (.t 29)), .o (.al 8 1 Z1 [(.v (.int .i64 0)), (.v (.int .i64 0)), (.v (.string ⟨#[]⟩))]), .o (.st 3 (.t 8) (.t 30))])
def o9a : List G := [.o (.fa 31 (.t 4) 3), .o (.ld 32 1 false (.t 31)), .o (.mv 33 (.t 32)), .g 33 true (.fa 34 (.t 8) 0), .g 33 true (.ld 35 1 false (.t 34)), .g 33 true (.bin 36 .neq (.t 35) (.k (.v (.int .i64 0)))), .o (.pick 37 (.t 33) (.t 36) (.k (.v (.bool false)))), .o (.mv 38 (.t 37)), .g 38 true (.mv 39 (.t 5)), .g 38 true (.ld 40 3 true (.t 8))]
def o9b : List G := [.o (.pick 42 (.t 38) (.t 41) (.k (.v (.bool false))))]
def o10 : ACode := (.sq (.rg 0 false [.o (.mv 2 (.k (.v (.bool false))))]) .rt)
def o11 : List G := [.o (.mv 43 (.t 5)), .o (.ld 44 3 true (.t 8))]
def o12 : ACode := (.rg 0 false [.o (.bin 45 .add (.t 21) (.k (.v (.int .i64 1)))), .o (.mv 21 (.t 45))])
def o13 : ACode := (.rg 0 false [.o (.bin 46 .add (.t 12) (.k (.v (.int .i64 1)))), .o (.mv 12 (.t 46))])
def o14 : ACode := (.sq (.rg 0 false [.o (.mv 2 (.k (.v (.bool true))))]) .rt)
theorem oq0 : Zy Tryz.prog 47 o0 (Zx (Yj Tryz.f172) 0) = true := by kernel_rfl
theorem oq1 : Zy Tryz.prog 47 o1 (Zx (Yj Tryz.f172) 1) = true := by kernel_rfl
theorem oq2 : Zy Tryz.prog 47 o2 (Yi (Zx (Yj Tryz.f172) 100) 2) = true := by kernel_rfl
theorem oq3 : Zy Tryz.prog 47 o3 (regX (Yi (Zx (Yj Tryz.f172) 100) 100) 3) = true := by kernel_rfl
theorem oq5 : Zy Tryz.prog 47 o5 (regX (Yi (Zx (Yj Tryz.f172) 100) 100) 5) = true := by kernel_rfl
theorem oq7 : Zy Tryz.prog 47 o7 (regY (Yi (regX (Yi (Zx (Yj Tryz.f172) 100) 100) 9) 100) 7) = true := by kernel_rfl
theorem oq8 : Zy Tryz.prog 47 o8 (regY (Yi (regX (Yi (Zx (Yj Tryz.f172) 100) 100) 9) 100) 8) = true := by kernel_rfl
theorem oq10 : Zy Tryz.prog 47 o10 (regY (Yi (regX (Yi (Zx (Yj Tryz.f172) 100) 100) 9) 100) 10) = true := by kernel_rfl
theorem oq12 : Zy Tryz.prog 47 o12 (Yi (regX (Yi (Zx (Yj Tryz.f172) 100) 100) 9) 9) = true := by kernel_rfl
theorem oq13 : Zy Tryz.prog 47 o13 (Yi (Zx (Yj Tryz.f172) 100) 9) = true := by kernel_rfl
theorem oq14 : Zy Tryz.prog 47 o14 (Zx (Yj Tryz.f172) 9) = true := by kernel_rfl
theorem oq4b : Zap Tryz.prog 47 (Vy (regX (Yi (Zx (Yj Tryz.f172) 100) 100) 4)) 1 o4b = true := by kernel_rfl
theorem oq9a : Zap Tryz.prog 47 (Vy (regY (Yi (regX (Yi (Zx (Yj Tryz.f172) 100) 100) 9) 100) 9)) 0 o9a = true := by kernel_rfl
theorem oq9b : Zap Tryz.prog 47 (Vy (regY (Yi (regX (Yi (Zx (Yj Tryz.f172) 100) 100) 9) 100) 9)) 11 o9b = true := by kernel_rfl
theorem oq11 : Zap Tryz.prog 47 (Vy (regY (Yi (regX (Yi (Zx (Yj Tryz.f172) 100) 100) 9) 100) 11)) 0 o11 = true := by kernel_rfl
theorem l4 : (Vy (regX (Yi (Zx (Yj Tryz.f172) 100) 100) 4)).size = 2 := by kernel_rfl
theorem l9 : (Vy (regY (Yi (regX (Yi (Zx (Yj Tryz.f172) 100) 100) 9) 100) 9)).size = 12 := by kernel_rfl
theorem l11 : (Vy (regY (Yi (regX (Yi (Zx (Yj Tryz.f172) 100) 100) 9) 100) 11)).size = 3 := by kernel_rfl
def Zux (tm d : Nat) (o : Oper) : Bool := (match o.op with | .makeMap t none => decide (t = tm) | _ => false) && o.guard.isNone && decide (o.dst = some d)
theorem Zqa {tm d : Nat} {o : Oper} (h : Zux tm d o = true) : o.op = .makeMap tm none ∧ o.guard = none ∧ o.dst = some d := by
 unfold Zux at h
 simp only [Bool.and_eq_true, decide_eq_true_eq, Option.isNone_iff_eq_none] at h
 obtain ⟨⟨h1, h2⟩, h3⟩ := h
 split at h1
 · rename_i t ho
   simp only [decide_eq_true_eq] at h1
   subst h1
   exact ⟨ho, h2, h3⟩
 · cases h1
def Zuo (tm d m k j : Nat) (o : Oper) : Bool := (match o.op with | .lookup t (.tmp x) (.tmp y) false => decide (t = tm) && decide (x = m) && decide (y = k) | _ => false) && decide (o.guard = some (j, true)) && decide (o.dst = some d)
theorem Zqn {tm d m k j : Nat} {o : Oper} (h : Zuo tm d m k j o = true) : o.op = .lookup tm (.tmp m) (.tmp k) false ∧ o.guard = some (j, true) ∧ o.dst = some d := by
 unfold Zuo at h
 simp only [Bool.and_eq_true, decide_eq_true_eq] at h
 obtain ⟨⟨h1, h2⟩, h3⟩ := h
 split at h1
 · rename_i t x y ho
   simp only [Bool.and_eq_true, decide_eq_true_eq] at h1
   obtain ⟨⟨rfl, rfl⟩, rfl⟩ := h1
   exact ⟨ho, h2, h3⟩
 · cases h1
def Y0q (tm m k : Nat) (o : Oper) : Bool := (match o.op with | .mapUpdate t (.tmp x) (.tmp y) (.const (.bool true)) => decide (t = tm) && decide (x = m) && decide (y = k) | _ => false) && o.guard.isNone && o.dst.isNone
theorem Zqv {tm m k : Nat} {o : Oper} (h : Y0q tm m k o = true) : o.op = .mapUpdate tm (.tmp m) (.tmp k) (.const (.bool true)) ∧ o.dst = none ∧ o.guard = none := by
 unfold Y0q at h
 simp only [Bool.and_eq_true, Option.isNone_iff_eq_none] at h
 obtain ⟨⟨h1, h2⟩, h3⟩ := h
 split at h1
 · rename_i t x y ho
   simp only [Bool.and_eq_true, decide_eq_true_eq] at h1
   obtain ⟨⟨rfl, rfl⟩, rfl⟩ := h1
   exact ⟨ho, h3, h2⟩
 · cases h1
theorem Y5f : opAt (Vy (regX (Yi (Zx (Yj Tryz.f172) 100) 100) 4)) 0 (Zux 232 17) = true := by kernel_rfl
theorem Y4h : opAt (Vy (regY (Yi (regX (Yi (Zx (Yj Tryz.f172) 100) 100) 9) 100) 9)) 10 (Zuo 232 41 39 40 7) = true := by kernel_rfl
theorem Y2x : ((Vy (regY (Yi (regX (Yi (Zx (Yj Tryz.f172) 100) 100) 9) 100) 9))[7]?).bind (·.dst) = some 38 := by kernel_rfl
theorem Y43 : opAt (Vy (regY (Yi (regX (Yi (Zx (Yj Tryz.f172) 100) 100) 9) 100) 11)) 2 (Y0q 232 43 44) = true := by kernel_rfl
theorem Y3l : Z6i Tryz.prog Tryz.f172.results.toList [.t 2] = true := by kernel_rfl
theorem Zsp : Tryz.f172.ntmps = 47 := by kernel_rfl
end Go.Vm.T
namespace Go.Vm.T
open Go.RowKit Go.Proofs
variable [Pr1]
structure F1 (t : Tab) (σ : St) : Prop where
 base : σ.base = 0
 n2 : 2 ≤ σ.n
 s1 : σ.s 1 = .ptr 0 0 0
 h0 : σ.h 0 = some ⟨Zb, [t.c], true, true⟩
 s10 : σ.s 10 = .ref Z0 1 0 (Zc t).length (Zc t).length false
 h1 : σ.h 1 = some ⟨Z0, (Zc t).map ColV.c, true, false⟩
 s11 : σ.s 11 = .n (Zc t).length
structure F3 (t : Tab) (k : Nat) (c : ColV) (σ : St) : Prop where
 base : σ.base = 0
 n2 : 2 ≤ σ.n
 s1 : σ.s 1 = .ptr 0 0 0
 h0 : σ.h 0 = some ⟨Zb, [t.c], true, true⟩
 s10 : σ.s 10 = .ref Z0 1 0 (Zc t).length (Zc t).length false
 h1 : σ.h 1 = some ⟨Z0, (Zc t).map ColV.c, true, false⟩
 s11 : σ.s 11 = .n (Zc t).length
 s12 : σ.s 12 = .n (k : Nat)
 s3 : σ.s 3 = .n (k : Nat)
 b4 : ∃ b, b < σ.n ∧ 2 ≤ b ∧ σ.s 4 = .ptr b 0 0 ∧ σ.h b = some ⟨Z0, [c.c], true, true⟩
structure F5 (t : Tab) (k : Nat) (c : ColV) (km j : Nat) (σ : St) : Prop where
 f3 : F3 t k c σ
 s5 : σ.s 5 = .v (.map (some km))
 s19 : σ.s 19 = .lit Z5 (t.rows.map RowV.c)
 s20 : σ.s 20 = .n t.rows.length
 s21 : σ.s 21 = .n (j : Nat)
theorem ev0 (E : Env) (t : Tab) : ∃ σ', exec E o0 ⟨slots [.agg t.c], fun _ => none, 0, 0⟩ = some (.norm σ') ∧ σ'.base = 0 ∧ σ'.n = 1 ∧ σ'.s 1 = .ptr 0 0 0 ∧ σ'.h 0 = some ⟨Zb, [t.c], true, true⟩ := by
 simp only [o0, go_sem]
 exact ⟨_, rfl, rfl, rfl, rfl, rfl⟩
theorem ev1 (t : Tab) (H : OnceOk t) (σ : St) (hb : σ.base = 0) (hn : σ.n = 1) (h1 : σ.s 1 = .ptr 0 0 0) (h0 : σ.h 0 = some ⟨Zb, [t.c], true, true⟩) : ∃ σ', exec ⟨den pr 8, dcl pr 8, dfl pr 8⟩ o1 σ = some (.norm σ') ∧ F1 t σ' ∧ σ'.s 12 = .n (0 : Nat) := by
 obtain ⟨s, h, n, b⟩ := σ
 simp only at hb hn h1 h0
 subst hb; subst hn
 have e1 := Ztw (show 7 ≤ 8 by omega) t H.small
 have e1' : den pr 8 Zh5 [.agg t.c] = some [.olit Z0 ((Zc t).map ColV.c)] := e1
 generalize hs : Zc t = sh at *
 simp only [o1, go_sem, h1, h0, e1', List.length_map, Z6]
 exact ⟨_, rfl, ⟨rfl, Nat.le_refl 2, h1, h0, by rw [hs]; rfl, by rw [hs]; rfl, by rw [hs]; rfl⟩, rfl⟩
theorem ev3 (t : Tab) (k : Nat) (c : ColV) (hc : (Zc t)[k]? = some c) (σ : St) (F : F1 t σ) (h12 : σ.s 12 = .n (k : Nat)) : ∃ σ', exec ⟨den pr 8, dcl pr 8, dfl pr 8⟩ o3 σ = some (.norm σ') ∧ F3 t k c σ' := by
 obtain ⟨s, h, n, b⟩ := σ
 obtain ⟨hb, hn, h1, h0, h10, hh1, h11⟩ := F
 simp only at hb hn h1 h0 h10 hh1 h11 h12
 subst hb
 have hk : k < (Zc t).length := (List.getElem?_eq_some_iff.1 hc).1
 have hr := Zq (f := ColV.c) hc
 have n0 : ¬ 0 = n := by omega
 have n1 : ¬ 1 = n := by omega
 simp only [o3, go_sem, h10, hh1, h12, hk, hr, n0, n1]
 exact ⟨_, rfl, ⟨rfl, by show 2 ≤ n + 1; omega, h1, by simp only [go_sem, n0, h0], h10, by simp only [go_sem, n1, hh1], h11, h12, rfl, n, by show n < n + 1; omega, hn, rfl, by simp only [go_sem]⟩⟩
theorem F3.step {t : Tab} {k : Nat} {c : ColV} {σ σ' : St} (F : F3 t k c σ) (hb : σ'.base = 0) (hn : σ.n ≤ σ'.n) (hs : ∀ i, i ∈ [1, 3, 4, 10, 11, 12] → σ'.s i = σ.s i) (hh : ∀ i, i < σ.n → σ'.h i = σ.h i) : F3 t k c σ' := by
 obtain ⟨f1, f2, f3, f4, f5, f6, f7, f8, f9, b, f10, f11, f12, f13⟩ := F
 exact ⟨hb, by omega, by rw [hs 1 (by simp)]; exact f3, by rw [hh 0 (by omega)]; exact f4, by rw [hs 10 (by simp)]; exact f5, by rw [hh 1 (by omega)]; exact f6, by rw [hs 11 (by simp)]; exact f7, by rw [hs 12 (by simp)]; exact f8, by rw [hs 3 (by simp)]; exact f9, b, by omega, f11, by rw [hs 4 (by simp)]; exact f12, by rw [hh b f10]; exact f13⟩
theorem ev5 (t : Tab) (k : Nat) (c : ColV) (km : Nat) (σ : St) (F : F3 t k c σ) (h5 : σ.s 5 = .v (.map (some km))) : ∃ σ', exec ⟨den pr 8, dcl pr 8, dfl pr 8⟩ o5 σ = some (.norm σ') ∧ F5 t k c km 0 σ' := by
 obtain ⟨s, h, n, b⟩ := σ
 have hb := F.base
 have h1 := F.s1
 have h0 := F.h0
 simp only at hb h1 h0 h5
 subst hb
 simp only [o5, go_sem, h1, h0, List.length_map]
 exact ⟨_, rfl, ⟨F.step rfl (Nat.le_refl _) (fun i hi => by
  simp only [List.mem_cons, List.mem_nil_iff, or_false] at hi
  rcases hi with rfl | rfl | rfl | rfl | rfl | rfl <;> rfl) (fun i _ => rfl), h5, rfl, rfl, rfl⟩⟩
theorem F5.step {t : Tab} {k : Nat} {c : ColV} {km j : Nat} {σ σ' : St} (F : F5 t k c km j σ) (hb : σ'.base = 0) (hn : σ.n ≤ σ'.n) (hs : ∀ i, i ∈ [1, 3, 4, 5, 10, 11, 12, 19, 20, 21] → σ'.s i = σ.s i) (hh : ∀ i, i < σ.n → σ'.h i = σ.h i) : F5 t k c km j σ' := by
 obtain ⟨f, f5, f19, f20, f21⟩ := F
 exact ⟨f.step hb hn (fun i hi => hs i (by simp only [List.mem_cons, List.mem_nil_iff, or_false] at hi ⊢; omega)) hh, by rw [hs 5 (by simp)]; exact f5, by rw [hs 19 (by simp)]; exact f19, by rw [hs 20 (by simp)]; exact f20, by rw [hs 21 (by simp)]; exact f21⟩
structure F8 (v : Val) (σ : St) : Prop where
 b8 : ∃ b, b < σ.n ∧ σ.s 8 = .ptr b 0 0 ∧ σ.h b = some ⟨Z1, [v.c], true, true⟩
theorem ev7 (t : Tab) (k : Nat) (c : ColV) (km j : Nat) (r : RowV) (hr : t.rows[j]? = some r) (hl : t.rows.length ≤ big) (σ : St) (F : F5 t k c km j σ) : ∃ σ', exec ⟨den pr 8, dcl pr 8, dfl pr 8⟩ o7 σ = some (.norm σ') ∧ F5 t k c km j σ' ∧ ∃ b, b < σ'.n ∧ 2 ≤ b ∧ σ'.s 7 = .ptr b 0 0 ∧ σ'.h b = some ⟨Z5, [r.c], true, true⟩ := by
 obtain ⟨s, h, n, b⟩ := σ
 have hb := F.f3.base
 have hn := F.f3.n2
 have h19 := F.s19
 have h21 := F.s21
 simp only at hb hn h19 h21
 subst hb
 have hx := Zq (f := RowV.c) hr
 have hj : j < t.rows.length := (List.getElem?_eq_some_iff.1 hr).1
 simp only [o7, go_sem, h19, h21, hx, hj, List.length_map]
 refine ⟨_, rfl, F.step rfl (Nat.le_add_right _ _) (fun i hi => ?_) (fun i hi => ?_), n, by show n < n + 2; omega, hn, rfl, by simp only [go_sem]⟩
 · simp only [List.mem_cons, List.mem_nil_iff, or_false] at hi
   rcases hi with rfl | rfl | rfl | rfl | rfl | rfl | rfl | rfl | rfl | rfl <;> rfl
 · have hi' : i < n := hi
   have i1 : ¬ i = n := by omega
   have i2 : ¬ i = n + 1 := by omega
   simp only [Z7, i1, i2, if_false]
theorem Z9y {t : Tab} {r : RowV} (H : NowOk t r) : (nowV t r).length = (Zc t).length := by
 obtain ⟨s, s', h1, h2, h3⟩ := H.then_
 have hl := H.len
 unfold nowV Zc
 rw [h1] at hl ⊢
 rw [h3]
 simp only [Option.getD_some] at hl ⊢
 exact Zru h2 hl
theorem ev8 (t : Tab) (H : OnceOk t) (k : Nat) (c : ColV) (hk : k < (Zc t).length) (km j : Nat) (r : RowV) (hr : t.rows[j]? = some r) (σ : St) (F : F5 t k c km j σ) (h7 : ∃ b, b < σ.n ∧ 2 ≤ b ∧ σ.s 7 = .ptr b 0 0 ∧ σ.h b = some ⟨Z5, [r.c], true, true⟩) :
 ∃ σ', exec ⟨den pr 8, dcl pr 8, dfl pr 8⟩ o8 σ = some (.norm σ') ∧ F5 t k c km j σ' ∧ F8 ((nowV t r).getD k zV) σ' := by
 obtain ⟨s, h, n, b⟩ := σ
 obtain ⟨b7, g1, g2, g3, g4⟩ := h7
 have hb := F.f3.base
 have hn := F.f3.n2
 have h1 := F.f3.s1
 have h0 := F.f3.h0
 have h3 := F.f3.s3
 simp only at hb hn h1 h0 h3 g1 g3 g4
 subst hb
 have hN := H.rows r (List.mem_of_getElem? hr)
 have e1 := Y15 (show 7 ≤ 8 by omega) t H.small r hN
 have hlen := Z9y hN
 have hx : (nowV t r)[k]? = some ((nowV t r).getD k zV) := by
  rw [List.getD_eq_getElem?_getD, List.getElem?_eq_getElem (by omega), Option.getD_some]
 generalize (nowV t r).getD k zV = v at *
 have hk' : k < (nowV t r).length := by omega
 generalize nowV t r = row at *
 have hr' := Zq (f := Val.c) hx
 have m1 : ¬ b7 = n := by omega
 have m2 : ¬ 0 = n := by omega
 simp only [o8, go_sem, h1, h0, h3, g3, g4, e1, hr', hk', m1, m2, List.length_map, Zg]
 refine ⟨_, rfl, F.step rfl (Nat.le_add_right _ _) (fun i hi => ?_) (fun i hi => ?_), ⟨n + 1, by show n + 1 < n + 2; omega, rfl, by simp only [go_sem]⟩⟩
 · simp only [List.mem_cons, List.mem_nil_iff, or_false] at hi
   rcases hi with rfl | rfl | rfl | rfl | rfl | rfl | rfl | rfl | rfl | rfl <;> rfl
 · have hi' : i < n := hi
   have i1 : ¬ i = n := by omega
   have i2 : ¬ i = n + 1 := by omega
   simp only [Z7, i1, i2, if_false]
theorem ev9a (t : Tab) (k : Nat) (c : ColV) (km j : Nat) (v : Val) (σ : St) (F : F5 t k c km j σ) (f8 : F8 v σ) :
 ∃ σ' q, Za ⟨den pr 8, dcl pr 8, dfl pr 8⟩ 0 o9a σ = some σ' ∧ F5 t k c km j σ' ∧ F8 v σ' ∧ σ'.n = σ.n ∧ σ'.s 38 = .q q ∧ q = (c.once && !decide (v.k = 0)) ∧ (q = true → unT (σ'.s 39) = .v (.map (some km)) ∧ unT (σ'.s 40) = .agg ((vk v).map A.v)) := by
 obtain ⟨s, h, n, b⟩ := σ
 obtain ⟨b8, p1, p2, p3⟩ := f8.b8
 obtain ⟨b4, r1, r2, r3, r4⟩ := F.f3.b4
 have hb := F.f3.base
 have h5 := F.s5
 simp only at hb h5 p1 p2 p3 r1 r3 r4
 subst hb
 obtain ⟨cn, ck, need, once, df⟩ := c
 obtain ⟨k8, n8, t8⟩ := v
 have key : ∀ (σ' : St), σ'.base = 0 → σ'.n = n → σ'.h = h → (∀ i, i ∈ [1, 3, 4, 5, 8, 10, 11, 12, 19, 20, 21] → σ'.s i = s i) → F5 t k ⟨cn, ck, need, once, df⟩ km j σ' ∧ F8 ⟨k8, n8, t8⟩ σ' := fun σ' q1 q2 q3 q4 =>
  ⟨F.step q1 (by rw [q2]; exact Nat.le_refl _) (fun i hi => q4 i (by simp only [List.mem_cons, List.mem_nil_iff, or_false] at hi ⊢; omega)) (fun i _ => by rw [q3]), ⟨b8, by rw [q2]; exact p1, by rw [q4 8 (by simp)]; exact p2, by rw [q3]; exact p3⟩⟩
 have fin : ∀ (σ' : St) (q : Bool), Za ⟨den pr 8, dcl pr 8, dfl pr 8⟩ 0 o9a ⟨s, h, n, 0⟩ = some σ' → σ'.base = 0 → σ'.n = n → σ'.h = h → (∀ i, i ∈ [1, 3, 4, 5, 8, 10, 11, 12, 19, 20, 21] → σ'.s i = s i) → σ'.s 38 = .q q → q = (once && !decide (k8 = 0)) → (q = true → unT (σ'.s 39) = .v (.map (some km)) ∧ unT (σ'.s 40) = .agg ((vk ⟨k8, n8, t8⟩).map A.v)) → ∃ σ' q, Za ⟨den pr 8, dcl pr 8, dfl pr 8⟩ 0 o9a ⟨s, h, n, 0⟩ = some σ' ∧ F5 t k ⟨cn, ck, need, once, df⟩ km j σ' ∧ F8 ⟨k8, n8, t8⟩ σ' ∧ σ'.n = n ∧ σ'.s 38 = .q q ∧ q = (once && !decide (k8 = 0)) ∧ (q = true → unT (σ'.s 39) = .v (.map (some km)) ∧ unT (σ'.s 40) = .agg ((vk ⟨k8, n8, t8⟩).map A.v)) :=
  fun σ' q e1 e2 e3 e4 e5 e6 e7 e8 => ⟨σ', q, e1, (key σ' e2 e3 e4 e5).1, (key σ' e2 e3 e4 e5).2, e3, e6, e7, e8⟩
 have hin : ∀ (f : Nat → A), (∀ i, i ∈ [1, 3, 4, 5, 8, 10, 11, 12, 19, 20, 21] → f i = s i) → True := fun _ _ => trivial
 cases once with
 | false =>
   have ex : ∃ σ', Za ⟨den pr 8, dcl pr 8, dfl pr 8⟩ 0 o9a ⟨s, h, n, 0⟩ = some σ' ∧ σ'.base = 0 ∧ σ'.n = n ∧ σ'.h = h ∧ (∀ i, i ∈ [1, 3, 4, 5, 8, 10, 11, 12, 19, 20, 21] → σ'.s i = s i) ∧ σ'.s 38 = .q false := by
    simp only [o9a, go_sem, h5, r3, r4, p2, p3]
    refine ⟨_, rfl, rfl, rfl, rfl, fun i hi => ?_, rfl⟩
    rcases hi with rfl | rfl | rfl | rfl | rfl | rfl | rfl | rfl | rfl | rfl | rfl <;> rfl
   obtain ⟨σ', e1, e2, e3, e4, e5, e6⟩ := ex
   exact fin σ' false e1 e2 e3 e4 e5 e6 rfl (fun h => by cases h)
 | true =>
   have ex : ∃ σ', Za ⟨den pr 8, dcl pr 8, dfl pr 8⟩ 0 o9a ⟨s, h, n, 0⟩ = some σ' ∧ σ'.base = 0 ∧ σ'.n = n ∧ σ'.h = h ∧ (∀ i, i ∈ [1, 3, 4, 5, 8, 10, 11, 12, 19, 20, 21] → σ'.s i = s i) ∧ σ'.s 38 = .q (!decide (k8 = 0)) ∧ ((!decide (k8 = 0)) = true → unT (σ'.s 39) = .v (.map (some km)) ∧ unT (σ'.s 40) = .agg ((vk ⟨k8, n8, t8⟩).map A.v)) := by
    rcases pf (k8 = 0) with h0 | h0
    · simp only [o9a, go_sem, h5, r3, r4, p2, p3, h0]
      refine ⟨_, rfl, rfl, rfl, rfl, fun i hi => ?_, rfl, fun h => by cases h⟩
      rcases hi with rfl | rfl | rfl | rfl | rfl | rfl | rfl | rfl | rfl | rfl | rfl <;> rfl
    · simp only [o9a, go_sem, h5, r3, r4, p2, p3, h0]
      refine ⟨_, rfl, rfl, rfl, rfl, fun i hi => ?_, rfl, fun h => ⟨rfl, rfl⟩⟩
      rcases hi with rfl | rfl | rfl | rfl | rfl | rfl | rfl | rfl | rfl | rfl | rfl <;> rfl
   obtain ⟨σ', e1, e2, e3, e4, e5, e6, e7⟩ := ex
   exact fin σ' _ e1 e2 e3 e4 e5 e6 rfl e7
end Go.Vm.T
namespace Go.Vm.T
open Go.RowKit Go.Proofs
variable [Pr1]
theorem ev6 (t : Tab) (k : Nat) (c : ColV) (km j : Nat) (σ : St) (F : F5 t k c km j σ) : ∃ σ', exec ⟨den pr 8, dcl pr 8, dfl pr 8⟩ o6 σ = some (.norm σ') ∧ F5 t k c km j σ' ∧ σ'.s 22 = .q (decide (j < t.rows.length)) := by
 obtain ⟨s, h, n, b⟩ := σ
 have hb := F.f3.base
 have h20 := F.s20
 have h21 := F.s21
 simp only at hb h20 h21
 subst hb
 have hi : ((j : Int) < (t.rows.length : Int)) = (j < t.rows.length) := by simp
 simp only [o6, go_sem, h20, h21, hi]
 refine ⟨_, rfl, F.step rfl (Nat.le_refl _) (fun i hi => ?_) (fun i hi => rfl), rfl⟩
 simp only [List.mem_cons, List.mem_nil_iff, or_false] at hi
 rcases hi with rfl | rfl | rfl | rfl | rfl | rfl | rfl | rfl | rfl | rfl <;> rfl
theorem ev12 (t : Tab) (k : Nat) (c : ColV) (km j : Nat) (hj : j ≤ big) (σ : St) (F : F5 t k c km j σ) : ∃ σ', exec ⟨den pr 8, dcl pr 8, dfl pr 8⟩ o12 σ = some (.norm σ') ∧ F5 t k c km (j + 1) σ' := by
 obtain ⟨s, h, n, b⟩ := σ
 have hb := F.f3.base
 have h21 := F.s21
 simp only at hb h21
 subst hb
 have hw := Zf (n := j) (by unfold big at hj; omega)
 simp only [o12, go_sem, h21, hw]
 have g : F3 t k c ⟨upd (upd s 45 (.n ((j + 1 : Nat) : Int))) 21 (.n ((j + 1 : Nat) : Int)), h, n, 0⟩ := F.f3.step rfl (Nat.le_refl _) (fun i hi => by
  simp only [List.mem_cons, List.mem_nil_iff, or_false] at hi
  rcases hi with rfl | rfl | rfl | rfl | rfl | rfl <;> rfl) (fun i _ => rfl)
 exact ⟨_, rfl, ⟨g, F.s5, F.s19, F.s20, rfl⟩⟩
theorem ev2 (t : Tab) (k : Nat) (σ : St) (F : F1 t σ) (h12 : σ.s 12 = .n (k : Nat)) : ∃ σ', exec ⟨den pr 8, dcl pr 8, dfl pr 8⟩ o2 σ = some (.norm σ') ∧ F1 t σ' ∧ σ'.s 12 = .n (k : Nat) ∧ σ'.s 13 = .q (decide (k < (Zc t).length)) := by
 obtain ⟨s, h, n, b⟩ := σ
 obtain ⟨hb, hn, h1, h0, h10, hh1, h11⟩ := F
 simp only at hb hn h1 h0 h10 hh1 h11 h12
 subst hb
 have hi : ((k : Int) < ((Zc t).length : Int)) = (k < (Zc t).length) := by simp
 simp only [o2, go_sem, h11, h12, hi]
 exact ⟨_, rfl, ⟨rfl, hn, h1, h0, h10, hh1, h11⟩, h12, rfl⟩
theorem ev13 (t : Tab) (k : Nat) (c : ColV) (hk : k ≤ big) (σ : St) (F : F3 t k c σ) : ∃ σ', exec ⟨den pr 8, dcl pr 8, dfl pr 8⟩ o13 σ = some (.norm σ') ∧ F1 t σ' ∧ σ'.s 12 = .n ((k + 1 : Nat) : Int) := by
 obtain ⟨s, h, n, b⟩ := σ
 obtain ⟨hb, hn, h1, h0, h10, hh1, h11, h12, _⟩ := F
 simp only at hb hn h1 h0 h10 hh1 h11 h12
 subst hb
 have hw := Zf (n := k) (by unfold big at hk; omega)
 simp only [o13, go_sem, h12, hw]
 exact ⟨_, rfl, ⟨rfl, hn, h1, h0, h10, hh1, h11⟩, rfl⟩
abbrev HyO (S : Nat → Prop) (w0 : World) (mp : Mp) (σ : St) (a : Act) (w : World) : Prop := Hy Tryz.prog S w0 47 mp σ a w
theorem Zys (O : ProgOk Tryz.prog pr) (S : Nat → Prop) (w0 : World) (t : Tab) (H : OnceOk t) (k : Nat) (c : ColV) (hk : k < (Zc t).length) (j : Nat) (r : RowV) (hr : t.rows[j]? = some r) (keys : List Val) (km cl : Nat) (es : Array MapEntry) (hh : Holds [0, 0, 1] es.toList (keys.map vk)) (σ : St) (a : Act) (w : World)
 (Y : HyO S w0 (some (km, es, cl)) σ a w) (F : F5 t k c km j σ) {Q : Exit → Act → World → Prop}
 (qr : oneG c j keys ((nowV t r).getD k zV) = .inr () → ∀ σ a w, HyO S w0 none σ a w → σ.s 2 = .q false → Q .ret a w)
 (qn : oneG c j keys ((nowV t r).getD k zV) = .inl (addV keys ((nowV t r).getD k zV)) → ∀ σ a w es cl, HyO S w0 (some (km, es, cl)) σ a w → F5 t k c km j σ → Holds [0, 0, 1] es.toList ((addV keys ((nowV t r).getD k zV)).map vk) → Q .normal a w) :
 (Yi (regX (Yi (Zx (Yj Tryz.f172) 100) 100) 9) 100).wp Tryz.prog Q a w := by
 have hE := Zcr O 8
 have hSh := O.shr 8
 rw [Y4d]
 refine wp_seq ?_
 obtain ⟨σ1, e1, F1', h7⟩ := ev7 t k c km j r hr H.small.rlen σ F
 refine Y.code hE hSh orders oq7 e1 F1'.f3.base (fun ex a1 w1 hs Y1 => ?_)
 cases ex <;> simp only [Zr] at hs
 simp only [Exit.then, Out.st] at Y1 ⊢
 refine wp_seq ?_
 obtain ⟨σ2, e2, F2, f8⟩ := ev8 t H k c hk km j r hr σ1 F1' h7
 refine Y1.code hE hSh orders oq8 e2 F2.f3.base (fun ex a2 w2 hs Y2 => ?_)
 cases ex <;> simp only [Zr] at hs
 simp only [Exit.then, Out.st] at Y2 ⊢
 generalize (nowV t r).getD k zV = v at *
 refine wp_seq (wp_seq (wp_region ?_))
 rw [l9]
 show wpOps Tryz.prog (Vy (regY (Yi (regX (Yi (Zx (Yj Tryz.f172) 100) 100) 9) 100) 9)) _ (List.range' 0 o9a.length ++ (10 :: (List.range' 11 o9b.length ++ []))) a2 w2
 obtain ⟨σ3, q, e3, F3', f83, m3, s38, hq, h39⟩ := ev9a t k c km j v σ2 F2 f8
 refine Hy.seg hE o9a 0 oq9a Y2 e3 m3 (fun a3 w3 Y3 => ?_)
 obtain ⟨o, ho, hp⟩ := Zav Y4h
 obtain ⟨ho1, ho2, ho3⟩ := Zqn hp
 obtain ⟨rr, hka, hrs⟩ := Zqx v keys 0
 refine Y3.lookup Zy3 ho ho1 ho3 (by decide) ho2 Y2x (k := vk v) rfl hh hka (t := q) (by unfold test; rw [s38]; cases q <;> rfl) (fun h => (h39 h).1) (fun h => (h39 h).2) (fun a4 Y4 => ?_)
 obtain ⟨σ5, e5, F5', f85, m5, s42⟩ : ∃ σ', Za ⟨den pr 8, dcl pr 8, dfl pr 8⟩ 0 o9b { σ3 with s := upd σ3.s 41 (.ifg q (.q rr.isSome)) } = some σ' ∧ F5 t k c km j σ' ∧ F8 v σ' ∧ σ'.n = σ3.n ∧ σ'.s 42 = .q (q && rr.isSome) := by
  obtain ⟨s, h, n, b⟩ := σ3
  have hb := F3'.f3.base
  simp only at hb s38
  subst hb
  have st : ∀ σ' : St, σ'.base = 0 → σ'.n = n → σ'.h = h → (∀ i, i ∈ [1, 3, 4, 5, 8, 10, 11, 12, 19, 20, 21] → σ'.s i = s i) → F5 t k c km j σ' ∧ F8 v σ' := fun σ' q1 q2 q3 q4 => by
   obtain ⟨b8, p1, p2, p3⟩ := f83.b8
   exact ⟨F3'.step q1 (by rw [q2]; exact Nat.le_refl _) (fun i hi => q4 i (by simp only [List.mem_cons, List.mem_nil_iff, or_false] at hi ⊢; omega)) (fun i _ => by rw [q3]), ⟨b8, by rw [q2]; exact p1, by rw [q4 8 (by simp)]; exact p2, by rw [q3]; exact p3⟩⟩
  have ex : ∃ σ', Za ⟨den pr 8, dcl pr 8, dfl pr 8⟩ 0 o9b ⟨upd s 41 (.ifg q (.q rr.isSome)), h, n, 0⟩ = some σ' ∧ σ'.base = 0 ∧ σ'.n = n ∧ σ'.h = h ∧ (∀ i, i ∈ [1, 3, 4, 5, 8, 10, 11, 12, 19, 20, 21] → σ'.s i = s i) ∧ σ'.s 42 = .q (q && rr.isSome) := by
   cases q with
   | false =>
     simp only [o9b, go_sem, s38]
     refine ⟨_, rfl, rfl, rfl, rfl, fun i hi => ?_, rfl⟩
     rcases hi with rfl | rfl | rfl | rfl | rfl | rfl | rfl | rfl | rfl | rfl | rfl <;> rfl
   | true =>
     simp only [o9b, go_sem, s38]
     refine ⟨_, rfl, rfl, rfl, rfl, fun i hi => ?_, rfl⟩
     rcases hi with rfl | rfl | rfl | rfl | rfl | rfl | rfl | rfl | rfl | rfl | rfl <;> rfl
  obtain ⟨σ', x1, x2, x3, x4, x5, x6⟩ := ex
  exact ⟨σ', x1, (st σ' x2 x3 x4 x5).1, (st σ' x2 x3 x4 x5).2, x3, x6⟩
 refine Hy.seg hE o9b 11 oq9b Y4 e5 m5 (fun a5 w5 Y5 => ?_)
 show Exit.then _ _ .normal a5 w5
 simp only [Exit.then]
 refine wp_cond (Y5.bool s42) ?_
 have hone : oneG c j keys v = if (q && rr.isSome) = true then .inr () else .inl (addV keys v) := by
  unfold oneG
  rw [hrs, hq]
  by_cases h1 : c.once = true <;> by_cases h2 : v.k = 0 <;> by_cases h3 : v ∈ keys <;> simp [h1, h2, h3]
 cases hc : (q && rr.isSome) with
 | true =>
   rw [hc] at hone
   simp only [if_true]
   obtain ⟨σ6, e6, b6, s62⟩ : ∃ σ', exec ⟨den pr 8, dcl pr 8, dfl pr 8⟩ o10 σ5 = some (.ret σ') ∧ σ'.base = 0 ∧ σ'.s 2 = .q false := by
    obtain ⟨s, h, n, b⟩ := σ5
    have hb := F5'.f3.base
    simp only at hb
    subst hb
    simp only [o10, go_sem]
    exact ⟨_, rfl, rfl, rfl⟩
   refine Y5.code hE hSh orders oq10 e6 b6 (fun ex a6 w6 hs Y6 => ?_)
   cases ex <;> simp only [Zr] at hs
   simp only [Exit.then, Out.st] at Y6 ⊢
   exact qr hone σ6 a6 w6 Y6.drop s62
 | false =>
   rw [hc] at hone
   simp only [Bool.false_eq_true, if_false] at hone ⊢
   refine wp_skip ?_
   simp only [Exit.then]
   refine wp_region ?_
   rw [l11]
   show wpOps Tryz.prog (Vy (regY (Yi (regX (Yi (Zx (Yj Tryz.f172) 100) 100) 9) 100) 11)) _ (List.range' 0 o11.length ++ [2]) a5 w5
   obtain ⟨σ7, e7, F7, m7, s43, s44⟩ : ∃ σ', Za ⟨den pr 8, dcl pr 8, dfl pr 8⟩ 0 o11 σ5 = some σ' ∧ F5 t k c km j σ' ∧ σ'.n = σ5.n ∧ σ'.s 43 = .v (.map (some km)) ∧ σ'.s 44 = .agg ((vk v).map A.v) := by
    obtain ⟨s, h, n, b⟩ := σ5
    have hb := F5'.f3.base
    have h5 := F5'.s5
    obtain ⟨b8, p1, p2, p3⟩ := f85.b8
    simp only at hb h5 p1 p2 p3
    subst hb
    simp only [o11, go_sem, h5, p2, p3]
    refine ⟨_, rfl, F5'.step rfl (Nat.le_refl _) (fun i hi => ?_) (fun i _ => rfl), rfl, rfl, rfl⟩
    simp only [List.mem_cons, List.mem_nil_iff, or_false] at hi
    rcases hi with rfl | rfl | rfl | rfl | rfl | rfl | rfl | rfl | rfl | rfl <;> rfl
   refine Hy.seg hE o11 0 oq11 Y5 e7 m7 (fun a7 w7 Y7 => ?_)
   obtain ⟨o2, ho2, hp2⟩ := Zav Y43
   obtain ⟨u1, u2, u3⟩ := Zqv hp2
   refine Y7.update Zy3 ho2 u1 u2 u3 (k := vk v) rfl hh hka s43 s44 (fun a8 w8 es8 cl8 h8 Y8 => ?_)
   rw [Y0l] at h8
   exact qn hone σ7 a8 w8 es8 cl8 Y8 F7 h8
end Go.Vm.T
namespace Go.Vm.T
open Go.RowKit Go.Proofs
variable [Pr1]
theorem Y6q (O : ProgOk Tryz.prog pr) (S : Nat → Prop) (w0 : World) (t : Tab) (H : OnceOk t) (k : Nat) (c : ColV) (hk : k < (Zc t).length) (j : Nat) (hj : j ≤ t.rows.length) (keys : List Val) (km cl : Nat) (es : Array MapEntry) (hh : Holds [0, 0, 1] es.toList (keys.map vk)) (σ : St) (a : Act) (w : World)
 (Y : HyO S w0 (some (km, es, cl)) σ a w) (F : F5 t k c km j σ) (R : List Val ⊕ Unit) (hR : runI (oneG c) j keys ((Vw t k).drop j) = R) {Q : Exit → Act → World → Prop}
 (qr : R = .inr () → ∀ σ a w, HyO S w0 none σ a w → σ.s 2 = .q false → Q .ret a w)
 (qn : (∃ ks, R = .inl ks) → ∀ σ a w, HyO S w0 none σ a w → F3 t k c σ → Q (.exit 2) a w) :
 (Code.loop (regX (Yi (Zx (Yj Tryz.f172) 100) 100) 9)).wp Tryz.prog Q a w := by
 have hE := Zcr O 8
 have hSh := O.shr 8
 have hlen : (Vw t k).length = t.rows.length := by simp [Vw]
 refine wp_loop_ghost (fun m a w => ∃ j keys σ km cl es, m + j = t.rows.length ∧ Holds [0, 0, 1] es.toList (keys.map vk) ∧ HyO S w0 (some (km, es, cl)) σ a w ∧ F5 t k c km j σ ∧ runI (oneG c) j keys ((Vw t k).drop j) = R) (t.rows.length - j) ⟨j, keys, σ, km, cl, es, by omega, hh, Y, F, hR⟩ ?_
 clear hR F Y hh hj
 rintro m a w ⟨j, keys, σ, km, cl, es, hm, hh, Y, F, hR⟩
 rw [Zyw]
 refine wp_seq ?_
 obtain ⟨σ1, e1, F1', s22⟩ := ev6 t k c km j σ F
 refine Y.code hE hSh orders (by kernel_rfl : Zy Tryz.prog 47 o6 (Yi (regX (Yi (Zx (Yj Tryz.f172) 100) 100) 9) 2) = true) e1 F1'.f3.base (fun ex a1 w1 hs Y1 => ?_)
 cases ex <;> simp only [Zr] at hs
 simp only [Exit.then, Out.st] at Y1 ⊢
 refine wp_seq (wp_cond (Y1.bool s22) ?_)
 by_cases hj : j < t.rows.length
 · simp only [hj, decide_true, if_true]
   refine wp_skip ?_
   simp only [Exit.then]
   refine wp_seq (wp_block ?_)
   have hr : t.rows[j]? = some t.rows[j] := List.getElem?_eq_getElem hj
   have hv : (Vw t k)[j]? = some ((nowV t t.rows[j]).getD k zV) := by simp [Vw, hr]
   have hd : (Vw t k).drop j = (nowV t t.rows[j]).getD k zV :: (Vw t k).drop (j + 1) := by
    rw [List.drop_eq_getElem_cons (by omega)]
    congr 1
    exact (List.getElem?_eq_some_iff.1 hv).2
   rw [hd] at hR
   unfold runI at hR
   generalize t.rows[j] = r at hr hR
   refine Zys O S w0 t H k c hk j r hr keys km cl es hh σ1 a1 w1 Y1 F1' (fun hg σ a w Yr s2 => ?_) (fun hg σ a w es cl Yn Fn hh' => ?_)
   · rw [hg] at hR
     simp only [Exit.inBlock, Exit.then]
     exact qr hR.symm σ a w Yr s2
   · rw [hg] at hR
     simp only [Exit.inBlock, Exit.then]
     obtain ⟨σ2, e2, F2⟩ := ev12 t k c km j (by have := H.small.rlen; omega) σ Fn
     refine Yn.code hE hSh orders oq12 e2 F2.f3.base (fun ex a2 w2 hs Y2 => ?_)
     cases ex <;> simp only [Zr] at hs
     simp only [Exit.then, Out.st] at Y2 ⊢
     exact ⟨m - 1, by omega, j + 1, _, σ2, km, cl, es, by omega, hh', Y2, F2, hR⟩
 · simp only [hj, decide_false, Bool.false_eq_true, if_false]
   refine wp_exit ?_
   simp only [Exit.then]
   have hd : (Vw t k).drop j = [] := List.drop_eq_nil_of_le (by omega)
   rw [hd] at hR
   exact qn ⟨keys, hR.symm⟩ σ1 a1 w1 Y1.drop F1'.f3
theorem Y4o (O : ProgOk Tryz.prog pr) (S : Nat → Prop) (w0 : World) (t : Tab) (H : OnceOk t) (σ : St) (a : Act) (w : World) (Y : HyO S w0 none σ a w) (F : F1 t σ) (h12 : σ.s 12 = .n (0 : Nat)) (R : Unit ⊕ Unit) (hR : runI (tabG t) 0 () (Zc t) = R) {Q : Exit → Act → World → Prop}
 (qr : R = .inr () → ∀ σ a w, HyO S w0 none σ a w → σ.s 2 = .q false → Q .ret a w)
 (qn : R = .inl () → ∀ σ a w, HyO S w0 none σ a w → F1 t σ → Q (.exit 0) a w) (hsl : (Zc t).length ≤ big) :
 (Code.loop (Zx (Yj Tryz.f172) 100)).wp Tryz.prog Q a w := by
 have hE := Zcr O 8
 have hSh := O.shr 8
 refine wp_loop_ghost (fun m a w => ∃ k σ, m + k = (Zc t).length ∧ HyO S w0 none σ a w ∧ F1 t σ ∧ σ.s 12 = .n (k : Nat) ∧ runI (tabG t) k () ((Zc t).drop k) = R) (Zc t).length ⟨0, σ, by omega, Y, F, h12, by rw [List.drop_zero]; exact hR⟩ ?_
 clear hR F Y h12
 rintro m a w ⟨k, σ, hm, Y, F, h12, hR⟩
 rw [Zyy]
 refine wp_seq ?_
 obtain ⟨σ1, e1, F1', g12, s13⟩ := ev2 t k σ F h12
 refine Y.code hE hSh orders oq2 e1 F1'.base (fun ex a1 w1 hs Y1 => ?_)
 cases ex <;> simp only [Zr] at hs
 simp only [Exit.then, Out.st] at Y1 ⊢
 refine wp_seq (wp_cond (Y1.bool s13) ?_)
 by_cases hk : k < (Zc t).length
 · simp only [hk, decide_true, if_true]
   refine wp_skip ?_
   simp only [Exit.then]
   refine wp_seq (wp_block ?_)
   have hc : (Zc t)[k]? = some (Zc t)[k] := List.getElem?_eq_getElem hk
   have hd : (Zc t).drop k = (Zc t)[k] :: (Zc t).drop (k + 1) := List.drop_eq_getElem_cons hk
   rw [hd] at hR
   generalize (Zc t)[k] = c at hc hR
   unfold runI at hR
   rw [Y4e]
   refine wp_seq ?_
   obtain ⟨σ2, e2, F2⟩ := ev3 t k c hc σ1 F1' g12
   refine Y1.code hE hSh orders oq3 e2 F2.base (fun ex a2 w2 hs Y2 => ?_)
   cases ex <;> simp only [Zr] at hs
   simp only [Exit.then, Out.st] at Y2 ⊢
   refine wp_seq (wp_region ?_)
   rw [l4]
   show wpOps Tryz.prog (Vy (regX (Yi (Zx (Yj Tryz.f172) 100) 100) 4)) _ (0 :: (List.range' 1 o4b.length ++ [])) a2 w2
   obtain ⟨o, ho, hp⟩ := Zav Y5f
   obtain ⟨ho1, ho2, ho3⟩ := Zqa hp
   refine Y2.make ho ho1 ho3 (by decide) ho2 (fun a3 w3 km Y3 => ?_)
   obtain ⟨σ4, e4, F4, m4, s5⟩ : ∃ σ', Za ⟨den pr 8, dcl pr 8, dfl pr 8⟩ 0 o4b { σ2 with s := upd σ2.s 17 (.v (.map (some km))) } = some σ' ∧ F3 t k c σ' ∧ σ'.n = σ2.n ∧ σ'.s 5 = .v (.map (some km)) := by
    obtain ⟨s, h, n, b⟩ := σ2
    have hb := F2.base
    simp only at hb
    subst hb
    simp only [o4b, go_sem]
    refine ⟨_, rfl, F2.step rfl (Nat.le_refl _) (fun i hi => ?_) (fun i _ => rfl), rfl, rfl⟩
    simp only [List.mem_cons, List.mem_nil_iff, or_false] at hi
    rcases hi with rfl | rfl | rfl | rfl | rfl | rfl <;> rfl
   refine Hy.seg hE o4b 1 oq4b Y3 e4 m4 (fun a4 w4 Y4 => ?_)
   show Exit.then _ _ .normal a4 w4
   simp only [Exit.then]
   refine wp_seq ?_
   obtain ⟨σ5, e5, F5'⟩ := ev5 t k c km σ4 F4 s5
   refine Y4.code hE hSh orders oq5 e5 F5'.f3.base (fun ex a5 w5 hs Y5 => ?_)
   cases ex <;> simp only [Zr] at hs
   simp only [Exit.then, Out.st] at Y5 ⊢
   refine wp_block ?_
   refine Y6q O S w0 t H k c hk 0 (Nat.zero_le _) [] km 0 #[] ⟨rfl, fun i e k h => by simp at h⟩ σ5 a5 w5 Y5 F5' _ rfl (fun hr σ a w Yr s2 => ?_) (fun hn σ a w Yn Fn => ?_)
   · rw [List.drop_zero] at hr
     have : oneB c (Vw t k) = false := by unfold oneB; rw [hr]
     unfold tabG at hR
     rw [this] at hR
     simp only [Exit.inBlock, Exit.then]
     exact qr hR.symm σ a w Yr s2
   · rw [List.drop_zero] at hn
     obtain ⟨ks, hn⟩ := hn
     have : oneB c (Vw t k) = true := by unfold oneB; rw [hn]
     unfold tabG at hR
     rw [this] at hR
     simp only [Exit.inBlock, Exit.then, if_true]
     obtain ⟨σ6, e6, F6, g6⟩ := ev13 t k c (by omega) σ Fn
     refine Yn.code hE hSh orders oq13 e6 F6.base (fun ex a6 w6 hs Y6 => ?_)
     cases ex <;> simp only [Zr] at hs
     simp only [Exit.then, Out.st] at Y6 ⊢
     exact ⟨m - 1, by omega, k + 1, σ6, by omega, Y6, F6, g6, hR⟩
 · simp only [hk, decide_false, Bool.false_eq_true, if_false]
   refine wp_exit ?_
   simp only [Exit.then]
   have hd : (Zc t).drop k = [] := List.drop_eq_nil_of_le (by omega)
   rw [hd] at hR
   exact qn hR.symm σ1 a1 w1 Y1 F1'
theorem Zqc (O : ProgOk Tryz.prog pr) {S : Nat → Prop} {w : World} (hS : ∀ k, S k → k < w.heap.size) (hG : GlobOk Tryz.prog S w) (t : Tab) (H : OnceOk t) {xs : List Value} (r : RL Tryz.prog Yg S w [.agg t.c] xs) :
 Calls Tryz.prog 172 xs.toArray w fun | .returned v, w' => Res Tryz.prog S w [.q (tabB t)] v w' | _, _ => False := by
 obtain ⟨x, xs', rfl, rx, rt⟩ := r.inv_cons
 have hx' := rt.inv_nil
 subst hx'
 refine calls_of_wp Tryz.func172 Y08 ?_
 have hE := Zcr O 8
 have hSh := O.shr 8
 have Y0 : HyO S w none ⟨slots [.agg t.c], fun _ => none, 0, 0⟩ { tmps := [x].toArray ++ Array.replicate (Tryz.f172.ntmps - [x].toArray.size) undef, defers := [] } w := Hy.start hS hG r (by rw [Zsp]; simp)
 refine wp_seq ?_
 obtain ⟨σ0, e0, b0, n0, h1, h0⟩ := ev0 ⟨den pr 8, dcl pr 8, dfl pr 8⟩ t
 refine Y0.code hE hSh orders oq0 e0 b0 (fun ex a1 w1 hs Y1 => ?_)
 cases ex <;> simp only [Zr] at hs
 simp only [Exit.then, Out.st] at Y1 ⊢
 refine wp_seq (wp_seq ?_)
 obtain ⟨σ1, e1, F1', g12⟩ := ev1 t H σ0 b0 n0 h1 h0
 refine Y1.code hE hSh orders oq1 e1 F1'.base (fun ex a2 w2 hs Y2 => ?_)
 cases ex <;> simp only [Zr] at hs
 simp only [Exit.then, Out.st] at Y2 ⊢
 refine wp_block ?_
 have hsl : (Zc t).length ≤ big := by
  obtain ⟨s', hs'⟩ := Option.isSome_iff_exists.1 H.all
  unfold Zc
  rw [hs']
  have := (Za1 ⟨H.small.cols, H.small.clen⟩ hs').2
  simp only [Option.getD_some]; omega
 have done : ∀ (σ : St) (b : Bool) (a : Act) (w' : World), HyO S w none σ a w' → σ.s 2 = .q b → bodyPost Tryz.prog Tryz.f172 (fun | .returned v, w' => Res Tryz.prog S w [.q b] v w' | _, _ => False) .ret a w' := fun σ b a w' Yd s2 => by
  have Yd' : Hy Tryz.prog S w Tryz.f172.ntmps none σ a w' := by rw [Zsp]; exact Yd
  exact Yd'.done Y3l (ra := [.q b]) (by simp only [go_sem, s2]) rfl
 refine Y4o O S w t H σ1 a2 w2 Y2 F1' g12 _ rfl (fun hr σ a w' Yr s2 => ?_) (fun hn σ a w' Yn Fn => ?_) hsl
 · have hB : tabB t = false := by unfold tabB; rw [hr]
   rw [hB]
   simp only [Exit.inBlock, Exit.then]
   exact done σ false a w' Yr s2
 · have hB : tabB t = true := by unfold tabB; rw [hn]
   rw [hB]
   simp only [Exit.inBlock, Exit.then, if_true]
   obtain ⟨σ3, e3, b3, s32⟩ : ∃ σ', exec ⟨den pr 8, dcl pr 8, dfl pr 8⟩ o14 σ = some (.ret σ') ∧ σ'.base = 0 ∧ σ'.s 2 = .q true := by
    obtain ⟨s, h, n, b⟩ := σ
    have hb := Fn.base
    simp only at hb
    subst hb
    simp only [o14, go_sem]
    exact ⟨_, rfl, rfl, rfl⟩
   refine Yn.code hE hSh orders oq14 e3 b3 (fun ex a3 w3 hs Y3 => ?_)
   cases ex <;> simp only [Zr] at hs
   simp only [Exit.then, Out.st] at Y3 ⊢
   exact done σ3 true a3 w3 Y3 s32
end Go.Vm.T
namespace Go.Vm.T
open Go.RowKit Go.Proofs
def Z2c (B : Code) : Nat → Code
 | 0 => seqL B
 | 1 => seqL (seqR B)
 | 2 => seqL (seqR (seqR B))
 | 3 => seqL (seqL (seqR (seqR (seqR B))))
 | 4 => conT (seqR (seqL (seqR (seqR (seqR B)))))
 | _ => seqR (seqR (seqR (seqR B)))
theorem Zzk : Tryz.f264.body = some (.seq (Z2c (Yj Tryz.f264) 0) (.seq (Z2c (Yj Tryz.f264) 1) (.seq (Z2c (Yj Tryz.f264) 2) (.seq (.seq (.region 3 (Vy (Z2c (Yj Tryz.f264) 3)) false) (.cond (.tmp 25) (Z2c (Yj Tryz.f264) 4) .skip)) (Z2c (Yj Tryz.f264) 5))))) := by kernel_rfl
def g0 : ACode := .sq (.rg 1 false [.o (.al 2 0 Z1 [(.v (.int .i64 0)), (.v (.int .i64 0)), (.v (.string ⟨#[]⟩))])]) .sk
def n0 : ACode := (.rg 1 false [.o (.al 2 0 Z1 [(.v (.int .i64 0)), (.v (.int .i64 0)), (.v (.string ⟨#[]⟩))])])
def n1 : ACode := (.rg 0 false [.o (.mv 7 (.t 0)), .o (.call (some 8) 0 0 Z0f [(.t 7)]), .o (.mv 6 (.t 8)), .o (.ex 9 (.t 6) 0), .o (.ex 10 (.t 6) 1), .o (.mv 3 (.t 9)), .o (.mv 4 (.t 10))])
def n2 : ACode := (.rg 1 false [.o (.mv 11 (.t 3)), .o (.bld 12 0 [(.v (.int .i64 0)), (.v (.int .i64 0)), (.v (.string ⟨#[]⟩))] [(0, 1, (.k (.v (.int .i64 1)))), (1, 1, (.t 11))]), .o (.al 5 0 Z1 [(.v (.int .i64 0)), (.v (.int .i64 0)), (.v (.string ⟨#[]⟩))]), .o (.st 3 (.t 5) (.t 12))])
def n3a : List G := [.o (.mv 13 (.t 4))]
def n3b : List G := [.o (.mv 15 (.t 14)), .g 15 false (.ld 16 3 true (.t 5)), .g 15 false (.call (some 17) 0 0 X8 [(.t 16)]), .g 15 false (.un 18 .not (.t 17)), .o (.pick 19 (.t 15) (.k (.v (.bool true))) (.t 18)), .o (.mv 20 (.t 19)), .g 20 false (.mv 21 (.t 3)), .g 20 false (.call (some 22) 0 0 We [(.t 21)]), .g 20 false (.mv 23 (.t 0)), .g 20 false (.bin 24 .neq (.t 22) (.t 23)), .o (.pick 25 (.t 20) (.k (.v (.bool true))) (.t 24))]
def n4 : ACode := (.sq (.rg 0 false [.o (.bld 26 0 [(.v (.int .i64 0)), (.v (.int .i64 0)), (.v (.string ⟨#[]⟩))] []), .o (.st 3 (.t 2) (.t 26))]) .rt)
def n5 : ACode := (.sq (.rg 0 false [.o (.ld 27 3 true (.t 5)), .o (.st 3 (.t 2) (.t 27))]) .rt)
theorem ok0 : Zy Tryz.prog 28 n0 (Z2c (Yj Tryz.f264) 0) = true := by kernel_rfl
theorem ok1 : Zy Tryz.prog 28 n1 (Z2c (Yj Tryz.f264) 1) = true := by kernel_rfl
theorem ok2 : Zy Tryz.prog 28 n2 (Z2c (Yj Tryz.f264) 2) = true := by kernel_rfl
theorem ok3a : Zap Tryz.prog 28 (Vy (Z2c (Yj Tryz.f264) 3)) 0 n3a = true := by kernel_rfl
theorem ok3b : Zap Tryz.prog 28 (Vy (Z2c (Yj Tryz.f264) 3)) 2 n3b = true := by kernel_rfl
theorem ok4 : Zy Tryz.prog 28 n4 (Z2c (Yj Tryz.f264) 4) = true := by kernel_rfl
theorem ok5 : Zy Tryz.prog 28 n5 (Z2c (Yj Tryz.f264) 5) = true := by kernel_rfl
theorem len3 : (Vy (Z2c (Yj Tryz.f264) 3)).size = 13 := by kernel_rfl
def Zgg (o : Oper) : Bool := (match o.op with | .binOp .neq 271 (.tmp 13) (.const .nilIface) _ => true | _ => false) && o.guard.isNone && decide (o.dst = some 14)
theorem Y6m : opAt (Vy (Z2c (Yj Tryz.f264) 3)) 1 Zgg = true := by kernel_rfl
theorem Zy7 : Z6i Tryz.prog Tryz.f264.results.toList [.cell 2 3 true] = true := by kernel_rfl
theorem Y0j : Tryz.f264.ntmps = 28 := by kernel_rfl
theorem Zjo {o : Oper} (h : Zgg o = true) : ∃ ty, o.op = .binOp .neq 271 (.tmp 13) (.const .nilIface) ty ∧ o.guard = none ∧ o.dst = some 14 := by
 unfold Zgg at h
 simp only [Bool.and_eq_true, decide_eq_true_eq, Option.isNone_iff_eq_none] at h
 obtain ⟨⟨h1, h2⟩, h3⟩ := h
 split at h1
 · rename_i ty ho
   exact ⟨ty, ho, h2, h3⟩
 · cases h1
variable [Pr0]
theorem Zpu {t : ByteArray} {n : Int} (hl : t.size ≤ 18) (h : Lib.atoi t.data.toList = some n) : -9223372036854775808 ≤ n ∧ n ≤ 9223372036854775807 := by
 obtain ⟨b0, r, e, hc⟩ := Lib.atoi_cases h
 have hl' : t.data.toList.length ≤ 18 := by simpa using hl
 rw [e] at hl'
 have hr : r.length ≤ 18 := by simp at hl'; omega
 rcases hc with ⟨_, m, _, h1, rfl⟩ | ⟨_, m, _, h1, rfl⟩ | ⟨_, _, m, h1, rfl⟩
 · have := Lib.decFrom_lt18 h1 hr; omega
 · have := Lib.decFrom_lt18 h1 hr; omega
 · have := Lib.decFrom_lt18 h1 hl'; omega
theorem Zrp {a b : ByteArray} (h : a.data = b.data) : a = b := by cases a; cases b; simp at h; rw [h]
theorem Znx (n : Int) (t : ByteArray) : Z64 n = t ↔ Lib.itoa n = t.data.toList := by
 unfold Z64
 constructor
 · intro h; rw [← h]
 · intro h; exact Zrp (by show (Lib.itoa n).toArray = t.data; rw [h])
theorem Zy9 (n : Int) : inB n (-999) 999 = true ↔ -999 ≤ n ∧ n ≤ 999 := by simp [inB]
theorem Zkh (O : ProgOk Tryz.prog pr) : Z5i Tryz.prog numF 264 ∧ Z6k Tryz.prog 264 := by
 refine ⟨fun S w zs rs xs he hS hG r => ?_, ⟨_, Tryz.func264, by kernel_rfl, by kernel_rfl⟩⟩
 unfold numF at he
 split at he
 · rename_i t
   split at he
   · rename_i hsz
     simp only [Option.some.injEq] at he
     subst he
     obtain ⟨x, xs', rfl, rx, rt⟩ := r.inv_cons
     have hx' := rt.inv_nil
     subst hx'
     refine calls_of_wp Tryz.func264 Zzk ?_
     have hE := Zcr O 3
     have hSh := O.shr 3
     have H0 : Hy Tryz.prog S w 28 none ⟨slots [.s t], fun _ => none, 0, 0⟩ { tmps := [x].toArray ++ Array.replicate (Tryz.f264.ntmps - [x].toArray.size) undef, defers := [] } w := Hy.start hS hG (.cons rx .nil) (by rw [Y0j]; simp)
     refine wp_seq (H0.code hE hSh orders ok0 (out := .norm ⟨upd (slots [.s t]) 2 (.ptr 0 0 0), upd (fun _ => none) 0 (some ⟨Z1, [[.n 0, .n 0, .s ⟨#[]⟩]], true, true⟩), 1, 0⟩) (by simp only [n0, go_sem]) rfl (fun ex a1 w1 hs H1 => ?_))
     cases ex <;> simp only [Zr] at hs
     simp only [Exit.then, Out.st] at H1 ⊢
     refine wp_seq ?_
     have hA : den pr 3 Z0f [.s t] = Zit [.s t] := Zcy 2 _
     have hsz' : t.size ≤ 18 := hsz
     obtain ⟨n, er, hat, her, hn⟩ : ∃ (n : Int) (er : A), Zit [.s t] = some [.n n, er] ∧ ((er = .v .nilIface ∧ Lib.atoi t.data.toList = some n) ∨ (er = .err ∧ Lib.atoi t.data.toList = none)) ∧ -9223372036854775808 ≤ n ∧ n ≤ 9223372036854775807 := by
      cases hq : Lib.atoi t.data.toList with
      | none => exact ⟨0, .err, by simp only [Zit, hsz', if_true, hq], .inr ⟨rfl, rfl⟩, by omega, by omega⟩
      | some n => exact ⟨n, .v .nilIface, by simp only [Zit, hsz', if_true, hq], .inl ⟨rfl, rfl⟩, Zpu hsz' hq⟩
     obtain ⟨σ1, e1, b1, m1, s10, s12, s13, s14, h10⟩ : ∃ σ', exec ⟨den pr 3, dcl pr 3, dfl pr 3⟩ n1 ⟨upd (slots [.s t]) 2 (.ptr 0 0 0), upd (fun _ => none) 0 (some ⟨Z1, [[.n 0, .n 0, .s ⟨#[]⟩]], true, true⟩), 1, 0⟩ = some (.norm σ') ∧ σ'.base = 0 ∧ σ'.n = 1 ∧ σ'.s 0 = .s t ∧ σ'.s 2 = .ptr 0 0 0 ∧ σ'.s 3 = .n n ∧ σ'.s 4 = er ∧ σ'.h 0 = some ⟨Z1, [[.n 0, .n 0, .s ⟨#[]⟩]], true, true⟩ := by
      rcases her with ⟨rfl, _⟩ | ⟨rfl, _⟩
      · simp only [n1, go_sem, hA, hat]
        exact ⟨_, rfl, rfl, rfl, rfl, rfl, rfl, rfl, rfl⟩
      · simp only [n1, go_sem, hA, hat]
        exact ⟨_, rfl, rfl, rfl, rfl, rfl, rfl, rfl, rfl⟩
     refine H1.code hE hSh orders ok1 e1 b1 (fun ex a2 w2 hs H2 => ?_)
     cases ex <;> simp only [Zr] at hs
     simp only [Exit.then, Out.st] at H2 ⊢
     refine wp_seq ?_
     obtain ⟨σ2, e2, b2, m2, s20, s22, s23, s24, s25, h20, h21⟩ : ∃ σ', exec ⟨den pr 3, dcl pr 3, dfl pr 3⟩ n2 σ1 = some (.norm σ') ∧ σ'.base = 0 ∧ σ'.n = 2 ∧ σ'.s 0 = .s t ∧ σ'.s 2 = .ptr 0 0 0 ∧ σ'.s 3 = .n n ∧ σ'.s 4 = er ∧ σ'.s 5 = .ptr 1 0 0 ∧ σ'.h 0 = some ⟨Z1, [[.n 0, .n 0, .s ⟨#[]⟩]], true, true⟩ ∧ σ'.h 1 = some ⟨Z1, [[.n 1, .n n, .s ⟨#[]⟩]], true, true⟩ := by
      obtain ⟨s, h, m, b⟩ := σ1
      simp only at b1 m1 s10 s12 s13 s14 h10
      subst b1; subst m1
      simp only [n2, go_sem, s13]
      exact ⟨_, rfl, rfl, rfl, s10, s12, s13, s14, rfl, h10, rfl⟩
     refine H2.code hE hSh orders ok2 e2 b2 (fun ex a3 w3 hs H3 => ?_)
     cases ex <;> simp only [Zr] at hs
     simp only [Exit.then, Out.st] at H3 ⊢
     refine wp_seq (wp_seq ?_)
     refine wp_region ?_
     rw [len3]
     show wpOps Tryz.prog (Vy (Z2c (Yj Tryz.f264) 3)) _ (List.range' 0 n3a.length ++ (1 :: (List.range' 2 n3b.length ++ []))) a3 w3
     obtain ⟨σ3, e3, b3, m3, s30, s32, s33, s35, s3d, h30, h31⟩ : ∃ σ', Za ⟨den pr 3, dcl pr 3, dfl pr 3⟩ 0 n3a σ2 = some σ' ∧ σ'.base = 0 ∧ σ'.n = 2 ∧ σ'.s 0 = .s t ∧ σ'.s 2 = .ptr 0 0 0 ∧ σ'.s 3 = .n n ∧ σ'.s 5 = .ptr 1 0 0 ∧ σ'.s 13 = er ∧ σ'.h 0 = some ⟨Z1, [[.n 0, .n 0, .s ⟨#[]⟩]], true, true⟩ ∧ σ'.h 1 = some ⟨Z1, [[.n 1, .n n, .s ⟨#[]⟩]], true, true⟩ := by
      obtain ⟨s, h, m, b⟩ := σ2
      simp only at b2 m2 s20 s22 s23 s24 s25 h20 h21
      subst b2; subst m2
      simp only [n3a, go_sem, s24]
      exact ⟨_, rfl, rfl, rfl, s20, s22, s23, s25, rfl, h20, h21⟩
     refine Hy.seg hE n3a 0 ok3a H3 e3 (by rw [m3, m2]) (fun a4 w4 H4 => ?_)
     obtain ⟨o, ho, hp⟩ := Zav Y6m
     obtain ⟨ty, ho1, hg1, hd1⟩ := Zjo hp
     obtain ⟨b, hb⟩ : ∃ b, (σ3.s 13 = .v .nilIface ∧ b = false) ∨ (σ3.s 13 = .err ∧ b = true) := by
      rw [s3d]
      rcases her with ⟨rfl, _⟩ | ⟨rfl, _⟩
      · exact ⟨_, .inl ⟨rfl, rfl⟩⟩
      · exact ⟨_, .inr ⟨rfl, rfl⟩⟩
     refine H4.neqNil (by kernel_rfl) ho ho1 hg1 hd1 (by decide) hb (fun a5 H5 => ?_)
     have hcase : (b = true ∧ numT t = (0, 0)) ∨ (b = false ∧ numT t = if -999 ≤ n ∧ n ≤ 999 ∧ Lib.itoa n = t.data.toList then (1, n) else (0, 0)) := by
      rw [s3d] at hb
      rcases her with ⟨rfl, hq⟩ | ⟨rfl, hq⟩
      · rcases hb with ⟨_, rfl⟩ | ⟨h, _⟩
        · exact .inr ⟨rfl, by simp only [numT, hq]⟩
        · cases h
      · rcases hb with ⟨h, _⟩ | ⟨_, rfl⟩
        · cases h
        · exact .inl ⟨rfl, by simp only [numT, hq]⟩
     have hI : den pr 3 We [.n n] = some [.s (Z64 n)] := by
      rw [Z6r]; simp only [Zpq, hn, and_self, if_true]
     have hV : den pr 3 X8 [.agg [.n 1, .n n, .s ⟨#[]⟩]] = some [.q (inB n (-999) 999)] := by
      have := Zgf (D := 3) (by omega) ⟨1, n, ⟨#[]⟩⟩ (by show (0 : Nat) ≤ big; omega)
      rw [this]
      simp [Z31]
     obtain ⟨q, σ5, e5, b5, m5, s52, s55, s5p, h50, h51, hq⟩ : ∃ q σ', Za ⟨den pr 3, dcl pr 3, dfl pr 3⟩ 0 n3b { σ3 with s := upd σ3.s 14 (.q b) } = some σ' ∧ σ'.base = 0 ∧ σ'.n = 2 ∧ σ'.s 2 = .ptr 0 0 0 ∧ σ'.s 5 = .ptr 1 0 0 ∧ σ'.s 25 = .q q ∧ σ'.h 0 = some ⟨Z1, [[.n 0, .n 0, .s ⟨#[]⟩]], true, true⟩ ∧ σ'.h 1 = some ⟨Z1, [[.n 1, .n n, .s ⟨#[]⟩]], true, true⟩ ∧ numT t = (if q then (0, 0) else (1, n)) := by
      obtain ⟨s, h, m, bs⟩ := σ3
      simp only at b3 m3 s30 s32 s33 s35 s3d h30 h31
      subst b3; subst m3
      rcases hcase with ⟨rfl, hN⟩ | ⟨rfl, hN⟩
      · simp only [n3b, go_sem, s30, s33, s35, h31, hV, hI]
        exact ⟨true, _, rfl, rfl, rfl, s32, s35, rfl, h30, h31, by simp [hN]⟩
      · cases hi : inB n (-999) 999 with
        | false =>
          rw [hi] at hV
          simp only [n3b, go_sem, s30, s33, s35, h31, hV, hI]
          refine ⟨true, _, rfl, rfl, rfl, s32, s35, rfl, h30, h31, ?_⟩
          rw [hN, if_neg]
          · simp
          · intro h
            have := (Zy9 n).2 ⟨h.1, h.2.1⟩
            rw [hi] at this; cases this
        | true =>
          rw [hi] at hV
          have hii := (Zy9 n).1 hi
          simp only [n3b, go_sem, s30, s33, s35, h31, hV, hI]
          refine ⟨!decide (Z64 n = t), _, rfl, rfl, rfl, s32, s35, rfl, h30, h31, ?_⟩
          rw [hN]
          by_cases h : Z64 n = t
          · rw [if_pos ⟨hii.1, hii.2, (Znx n t).1 h⟩]; simp [h]
          · rw [if_neg (fun q => h ((Znx n t).2 q.2.2))]; simp [h]
     refine Hy.seg hE n3b 2 ok3b H5 e5 (by rw [m5]; exact m3.symm) (fun a6 w6 H6 => ?_)
     show Exit.then _ _ .normal a6 w6
     simp only [Exit.then]
     refine wp_cond (H6.bool s5p) ?_
     cases q with
     | true =>
       simp only [if_true]
       obtain ⟨σ7, e7, b7, s72, h7⟩ : ∃ σ', exec ⟨den pr 3, dcl pr 3, dfl pr 3⟩ n4 σ5 = some (.ret σ') ∧ σ'.base = 0 ∧ σ'.s 2 = .ptr 0 0 0 ∧ σ'.h 0 = some ⟨Z1, [[.n 0, .n 0, .s ⟨#[]⟩]], true, true⟩ := by
        obtain ⟨s, h, m, b⟩ := σ5
        simp only at b5 m5 s52 s55 h50 h51
        subst b5; subst m5
        simp only [n4, go_sem, s52, h50]
        exact ⟨_, rfl, rfl, s52, rfl⟩
       refine H6.code hE hSh orders ok4 e7 b7 (fun ex a7 w7 hs H7 => ?_)
       cases ex <;> simp only [Zr] at hs
       simp only [Exit.then, Out.st] at H7 ⊢
       rw [hq]
       exact H7.done Zy7 (ra := [.agg [.n 0, .n 0, .s ⟨#[]⟩]]) (by simp only [go_sem, s72, h7]) rfl
     | false =>
       simp only [Bool.false_eq_true, if_false]
       refine wp_skip ?_
       simp only [Exit.then]
       obtain ⟨σ7, e7, b7, s72, h7⟩ : ∃ σ', exec ⟨den pr 3, dcl pr 3, dfl pr 3⟩ n5 σ5 = some (.ret σ') ∧ σ'.base = 0 ∧ σ'.s 2 = .ptr 0 0 0 ∧ σ'.h 0 = some ⟨Z1, [[.n 1, .n n, .s ⟨#[]⟩]], true, true⟩ := by
        obtain ⟨s, h, m, b⟩ := σ5
        simp only at b5 m5 s52 s55 h50 h51
        subst b5; subst m5
        simp only [n5, go_sem, s52, s55, h50, h51]
        exact ⟨_, rfl, rfl, s52, rfl⟩
       refine H6.code hE hSh orders ok5 e7 b7 (fun ex a7 w7 hs H7 => ?_)
       cases ex <;> simp only [Zr] at hs
       simp only [Exit.then, Out.st] at H7 ⊢
       rw [hq]
       exact H7.done Zy7 (ra := [.agg [.n 1, .n n, .s ⟨#[]⟩]]) (by simp only [go_sem, s72, h7]) rfl
   · cases he
 · cases he
end Go.Vm.T
namespace Go.Vm.T
open Go.RowKit Go.Proofs
theorem Y0p {a b : Val} (h : a.c = b.c) : a = b := by
 obtain ⟨k, n, t⟩ := a
 obtain ⟨k', n', t'⟩ := b
 simp only [Val.c, List.cons.injEq, A.v.injEq, Value.int.injEq, Value.string.injEq, true_and, and_true] at h
 obtain ⟨rfl, rfl, rfl⟩ := h
 rfl
theorem Zza {a b : ColV} (h : a.c = b.c) : a = b := by
 obtain ⟨nm, k, need, once, ⟨dk, dn, dt⟩⟩ := a
 obtain ⟨nm', k', need', once', ⟨dk', dn', dt'⟩⟩ := b
 simp only [ColV.c, List.cons.injEq, A.v.injEq, Value.int.injEq, Value.string.injEq, Value.bool.injEq, true_and, and_true] at h
 obtain ⟨rfl, rfl, rfl, rfl, rfl, rfl, rfl⟩ := h
 rfl
theorem Y1c {a b : Chg} (h : a.c = b.c) : a = b := by
 obtain ⟨ck, cnm, cnw, nm, k, need, once, ⟨dk, dn, dt⟩⟩ := a
 obtain ⟨ck', cnm', cnw', nm', k', need', once', ⟨dk', dn', dt'⟩⟩ := b
 simp only [Chg.c, List.cons.injEq, A.v.injEq, Value.int.injEq, Value.string.injEq, Value.bool.injEq, true_and, and_true] at h
 obtain ⟨rfl, rfl, rfl, rfl, rfl, rfl, rfl, rfl, rfl, rfl⟩ := h
 rfl
theorem Zcg {α β : Type} {f : α → β} (hf : ∀ {a b}, f a = f b → a = b) : ∀ {l m : List α}, l.map f = m.map f → l = m
 | [], [], _ => rfl
 | [], _ :: _, h => by simp at h
 | _ :: _, [], h => by simp at h
 | a :: l, b :: m, h => by
   simp only [List.map_cons, List.cons.injEq] at h
   rw [hf h.1, Zcg hf h.2]
theorem Zyu {a b : RowV} (h : a.c = b.c) : a = b := by
 obtain ⟨i, v, vs⟩ := a
 obtain ⟨i', v', vs'⟩ := b
 simp only [RowV.c, List.cons.injEq, A.v.injEq, A.lit.injEq, Value.int.injEq, true_and, and_true] at h
 obtain ⟨rfl, rfl, h⟩ := h
 rw [Zcg Y0p h]
theorem Y1i {a b : Tab} (h : a.c = b.c) : a = b := by
 obtain ⟨f, g, r, n⟩ := a
 obtain ⟨f', g', r', n'⟩ := b
 simp only [Tab.c, List.cons.injEq, A.v.injEq, A.lit.injEq, Value.int.injEq, true_and, and_true] at h
 obtain ⟨h1, h2, h3, rfl⟩ := h
 rw [Zcg Zza h1, Zcg Y1c h2, Zcg Zyu h3]
open Classical in
noncomputable def Zil (as1 : List A) : Option (List A) := if h : ∃ t : Tab, as1 = [.agg t.c] ∧ OnceOk t then some [.q (tabB (Classical.choose h))] else none
theorem Zok (t : Tab) (H : OnceOk t) : Zil [.agg t.c] = some [.q (tabB t)] := by
 have h : ∃ t' : Tab, [A.agg t.c] = [.agg t'.c] ∧ OnceOk t' := ⟨t, rfl, H⟩
 unfold Zil
 rw [dif_pos h]
 have e := (Classical.choose_spec h).1
 have e2 : t.c = (Classical.choose h).c := by injection e with e _; injection e
 rw [← Y1i e2]
def prA : Prog := ⟨fun f => look f fns, fun f => look f exts, fun f => look f inss, fun f => look f Zlm, fun _ => none, fun f => look f Zu5⟩
@[reducible] def iA : Pr0 := ⟨prA, fun _ => rfl, fun _ _ => rfl, fun _ => rfl, fun _ => rfl, fun _ _ => rfl, fun _ => rfl⟩
def prB : Prog := ⟨fun f => look f fns, fun f => if f = Yf then some numF else look f exts, fun f => look f inss, fun f => look f Zlm, fun _ => none, fun f => look f Zu5⟩
theorem Zhf {f : Nat} (h : f ∉ Y46) : f ≠ Yf ∧ f ≠ Zid := by
 constructor <;> (intro q; subst q; exact h (by decide))
theorem Y09 : prB.ext Yf = some numF := rfl
@[reducible] def iB : Pr1 := { pg := prB, fn := fun _ => rfl, ext := fun f h => if_neg (Zhf h).1, ins := fun _ => rfl, dn := fun _ => rfl, hx := fun _ _ => rfl, fl := fun _ => rfl, num := Y09 }
noncomputable def prC : Prog := ⟨fun f => look f fns, fun f => if f = Yf then some numF else if f = Zid then some Zil else look f exts, fun f => look f inss, fun f => look f Zlm, fun _ => none, fun f => look f Zu5⟩
theorem Y19 : prC.ext Yf = some numF := rfl
theorem Zws : prC.ext Zid = some Zil := rfl
class Pr2 extends Pr1 where
 once : pg.ext Zid = some Zil
@[reducible] noncomputable def iC : Pr2 := { pg := prC, fn := fun _ => rfl, ext := fun f h => (if_neg (Zhf h).1).trans (if_neg (Zhf h).2), ins := fun _ => rfl, dn := fun _ => rfl, hx := fun _ _ => rfl, fl := fun _ => rfl, num := Y19, once := Zws }
theorem okA : ProgOk Tryz.prog prA :=
 ⟨orders, fun f fn h => Zur (f, fn) (Wn h), fun f fn h => Zuq (f, fn) (Wn h), fun f F h => Zn7 (f, F) (Wn h), fun f e h => Zmc (f, e) (Wn h), fun f F h => (by cases h), fun f fn h => Zrx (f, fn) (Wn h)⟩
theorem okB : ProgOk Tryz.prog prB := by
 refine ⟨orders, fun f fn h => Zur (f, fn) (Wn h), fun f fn h => Zuq (f, fn) (Wn h), fun f F h => ?_, fun f e h => Zmc (f, e) (Wn h), fun f F h => (by cases h), fun f fn h => Zrx (f, fn) (Wn h)⟩
 have h' : (if f = Yf then some numF else look f exts) = some F := h
 split at h'
 · rename_i hf
   subst hf
   cases h'
   exact @Zkh iA okA
 · exact Zn7 (f, F) (Wn h')
theorem Zz4 : Z5i Tryz.prog Zil 172 ∧ Z6k Tryz.prog 172 := by
 refine ⟨fun S w as1 rs xs he hS hG r => ?_, ⟨_, Tryz.func172, by kernel_rfl, by kernel_rfl⟩⟩
 by_cases h : ∃ t : Tab, as1 = [.agg t.c] ∧ OnceOk t
 · obtain ⟨t, rfl, H⟩ := h
   rw [Zok t H] at he
   cases he
   exact @Zqc iB okB S w hS hG t H xs r
 · unfold Zil at he
   rw [dif_neg h] at he
   cases he
theorem okC : ProgOk Tryz.prog prC := by
 refine ⟨orders, fun f fn h => Zur (f, fn) (Wn h), fun f fn h => Zuq (f, fn) (Wn h), fun f F h => ?_, fun f e h => Zmc (f, e) (Wn h), fun f F h => (by cases h), fun f fn h => Zrx (f, fn) (Wn h)⟩
 have h' : (if f = Yf then some numF else if f = Zid then some Zil else look f exts) = some F := h
 split at h'
 · rename_i hf
   subst hf
   cases h'
   exact @Zkh iA okA
 · split at h'
   · rename_i hf
     subst hf
     cases h'
     exact Zz4
   · exact Zn7 (f, F) (Wn h')
theorem Y3d [Pr2] {D : Nat} (hD : 1 ≤ D) (t : Tab) (H : OnceOk t) : den pr D Zid [.agg t.c] = some [.q (tabB t)] := by
 obtain ⟨D, rfl, hd⟩ := Z8 hD
 rw [Z7g Pr2.once]
 exact Zok t H
end Go.Vm.T
end
