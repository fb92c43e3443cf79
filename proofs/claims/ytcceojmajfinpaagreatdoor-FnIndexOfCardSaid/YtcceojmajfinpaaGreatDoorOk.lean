/-
  Contracts of strconv at this translation; the lowered code is the program's, by the kernel
-/
import Derived.Test.YtcceojmajfinpaaGreatDoorProg
import Derived.KernelRfl
import Derived.Shelf.Strconv.Itoa3
import Derived.Shelf.Strconv.ErrVar
import Derived.Shelf.Strconv.Atoi
import Derived.Test.YtcceojmajfinpaaGreatDoorVmD
import Derived.WalkKit
import Derived.Shelf.RegionOpenPlain
import Derived.Lib.Walk
import Derived.Lib.SliceRun
import Derived.Lib.JoinLaws
import Derived.Lib.AppendZerosOnto
import Derived.Lib.Overlaps
import Derived.Laws.Externs
import Derived.Laws.IdiomCopy
import Derived.Test.YtcceojmajfinpaaGreatDoorCode
section
set_option linter.unusedVariables false
set_option linter.unusedSimpArgs false
set_option linter.unusedSectionVars false
namespace Go.Proofs
def Tryz.laysItoa_ren : Go.Shelf.Ren := ⟨fun | 171 => 263 | 243 => 266 | 246 => 268 | 283 => 271 | 284 => 272 | 285 => 273 | 286 => 274 | 129 => 233 | 317 => 280 | 318 => 281 | 319 => 282 | 320 => 283 | 337 => 287 | 338 => 288 | n => n, fun | 3 => 3 | 9 => 9 | 2 => 2 | 4 => 4 | 171 => 276 | 0 => 0 | 53 => 249 | 37 => 41 | 5 => 5 | 173 => 278 | 212 => 287 | 51 => 247 | 20 => 20 | 213 => 288 | 46 => 223 | 232 => 300 | 233 => 301 | n => n, fun | 17 => 0 | 18 => 3 | 19 => 4 | n => n⟩
theorem Tryz.laysItoa : Go.Proofs.LaysM.n171 Tryz.prog Tryz.laysItoa_ren := by
 repeat' first | kernel_rfl | (intro w; kernel_rfl) | constructor
def Tryz.laysAtoi_ren : Go.Shelf.Ren := ⟨fun | 172 => 267 | 244 => 269 | 245 => 270 | 247 => 275 | 279 => 276 | 280 => 277 | 281 => 278 | 282 => 279 | 287 => 284 | 316 => 285 | 171 => 263 | 205 => 286 | 321 => 289 | 322 => 290 | 243 => 266 | 246 => 268 | 283 => 271 | 284 => 272 | 285 => 273 | 286 => 274 | 129 => 233 | 317 => 280 | 318 => 281 | 319 => 282 | 320 => 283 | 337 => 287 | 338 => 288 | n => n, fun | 9 => 9 | 3 => 3 | 75 => 271 | 76 => 272 | 4 => 4 | 5 => 5 | 167 => 280 | 37 => 41 | 0 => 0 | 85 => 281 | 2 => 2 | 168 => 283 | 53 => 249 | 175 => 289 | 46 => 223 | 210 => 293 | 127 => 296 | 145 => 299 | 143 => 297 | 21 => 21 | 171 => 276 | 173 => 278 | 212 => 287 | 51 => 247 | 20 => 20 | 213 => 288 | 232 => 300 | 233 => 301 | 80 => 302 | n => n, fun | 15 => 1 | 16 => 2 | 17 => 0 | 18 => 3 | 19 => 4 | n => n⟩
theorem Tryz.laysAtoi : Go.Proofs.Lays.n172 Tryz.prog Tryz.laysAtoi_ren := by
 repeat' first | kernel_rfl | (intro w; kernel_rfl) | constructor
def Tryz.laysAtoiC_ren : Go.Shelf.Ren := ⟨fun | 172 => 267 | 244 => 269 | 245 => 270 | 247 => 275 | 279 => 276 | 280 => 277 | 281 => 278 | 282 => 279 | 287 => 284 | 316 => 285 | 171 => 263 | 205 => 286 | 321 => 289 | 322 => 290 | 243 => 266 | 246 => 268 | 283 => 271 | 284 => 272 | 285 => 273 | 286 => 274 | 129 => 233 | 317 => 280 | 318 => 281 | 319 => 282 | 320 => 283 | 337 => 287 | 338 => 288 | n => n, fun | 9 => 9 | 3 => 3 | 75 => 271 | 76 => 272 | 4 => 4 | 5 => 5 | 167 => 280 | 37 => 41 | 0 => 0 | 85 => 281 | 2 => 2 | 168 => 283 | 53 => 249 | 175 => 289 | 46 => 223 | 210 => 293 | 127 => 296 | 145 => 299 | 143 => 297 | 21 => 21 | 171 => 276 | 173 => 278 | 212 => 287 | 51 => 247 | 20 => 20 | 213 => 288 | 232 => 300 | 233 => 301 | 80 => 302 | n => n, fun | 15 => 1 | 16 => 2 | 17 => 0 | 18 => 3 | 19 => 4 | n => n⟩
theorem Tryz.laysAtoiC : Go.Proofs.LaysC.n172 Tryz.prog Tryz.laysAtoiC_ren := by
 repeat' first | kernel_rfl | (intro w; kernel_rfl) | constructor
end Go.Proofs
namespace Go.Vm.T
open Go.RowKit Go.Lib Go.Proofs
theorem Zrx {w : World} (k : Nat) (os : Array Obj) : Below w.heap.size w (Go.Sort.grow (w.drewN k) os) := by
 exact ⟨rfl, rfl, rfl, by simp [Go.Sort.grow], fun i hi => by
  show (w.heap ++ os)[i]? = w.heap[i]?
  rw [fX hi]⟩
theorem Y6o : Z9f Tryz.prog Zt4 263 /\ Z9z Tryz.prog 263 := by
 refine ⟨fun S w zs rs xs e hS hG r => ?_, ⟨_, Tryz.func263, by kernel_rfl, by kernel_rfl⟩⟩
 unfold Zt4 at e
 split at e
 . rename_i n
   split at e
   . rename_i hn
     simp only [dM] at e
     subst e
     obtain ⟨x, j0, rfl, rx, rt⟩ := r.inv_cons
     have := rt.inv_nil
     subst this
     obtain ⟨rfl, _⟩ := R.v_inv rx
     refine (Any.strconv_Itoa Tryz.laysItoa n hn.1 hn.2 w (hG.pow (by kernel_rfl))).mono (fun en w1 he => ?_)
     obtain ⟨rfl, k, os, rfl⟩ := he
     exact Zw9 hS hG (Zrx k os) (fun _ => rfl) (.v _ rfl)
   . cases e
 . cases e
theorem Zon {B : Nat} {a w : World} (h : Below B a w) (hB : B <= w.heap.size) (T : TypeId) (t : ByteArray) : Below B a (Lib.bytesWorld w T t) := by
 refine h.trans ?_
 have h1 : Below B w (w.drew.alloc (.cells (Lib.bytesCells w T t) T)) := ((Below.refl B w).drew).alloc hB _
 refine h1.trans ?_
 unfold Lib.bytesWorld World.freeze
 rw [if_neg (by decide)]
 refine ⟨rfl, rfl, rfl, by simp, fun i hi => ?_⟩
 have j0 : w.heap.size ≠ i := by omega
 simp only [Array.getElem?_modify, j0, if_false]
theorem Zvv (s : ByteArray) (n : Int) (hl : s.size <= 18) (h : Lib.atoi s.data.toList = some n) (w : World) : Calls Tryz.prog 267 #[.string s] w fun e w1 => e = .returned (.tuple #[.int .i64 n, .nilIface]) /\ Below w.heap.size w w1 :=
 (Any.strconv_Atoi Tryz.laysAtoi s n hl h w).mono (fun e w1 he => ⟨he.1, by obtain ⟨_, t, rfl⟩ := he; exact Zon (Below.refl _ _) (dO _) _ _⟩)
theorem Zxv (s : ByteArray) (hl : s.size <= 18) (h : Lib.atoi s.data.toList = none) (w : World) (hv : ∃ tp p, w.var? Tryz.prog "strconv.ErrSyntax" = some #[.iface tp p]) : Calls Tryz.prog 267 #[.string s] w fun e w1 => (∃ tp v, e = .returned (.tuple #[.int .i64 0, .iface tp v])) /\ Below w.heap.size w w1 := by
 obtain ⟨tp, p, hv⟩ := hv
 refine (Any.strconv_Atoi_err_var Tryz.laysAtoiC s hl h tp p w hv).mono (fun e w1 he => ?_)
 obtain ⟨N, h1, _, _, h2⟩ := he
 exact ⟨⟨_, _, h1⟩, h2⟩
theorem Y3k : Z9f Tryz.prog Zm6 267 /\ Z9z Tryz.prog 267 := by
 refine ⟨fun S w zs rs xs e hS hG r => ?_, ⟨_, Tryz.func267, by kernel_rfl, by kernel_rfl⟩⟩
 unfold Zm6 at e
 split at e
 . rename_i t
   split at e
   . rename_i hn
     obtain ⟨x, j1, rfl, rx, rt⟩ := r.inv_cons
     have := rt.inv_nil
     subst this
     obtain ⟨rfl, _⟩ := R.v_inv rx
     split at e
     . rename_i n j0
       simp only [dM] at e
       subst e
       refine (Zvv t n hn j0 w).mono (fun en w1 he => ?_)
       obtain ⟨rfl, hb⟩ := he
       exact Zh5 hS hG hb (fun _ => rfl) (.tup [_, _] [_, _] rfl (fun i x y h1 h2 => by
        match i, h1, h2 with
        | 0, h1, h2 => cases h1; cases h2; exact .v _ rfl
        | 1, h1, h2 => cases h1; cases h2; exact .v _ rfl))
     . rename_i j0
       simp only [dM] at e
       subst e
       refine (Zxv t hn j0 w (hG.syn (by kernel_rfl))).mono (fun en w1 he => ?_)
       obtain ⟨⟨tp, v, rfl⟩, hb⟩ := he
       exact Zh5 hS hG hb (fun _ => rfl) (.tup [_, _] [_, _] rfl (fun i x y h1 h2 => by
        match i, h1, h2 with
        | 0, h1, h2 => cases h1; cases h2; exact .v _ rfl
        | 1, h1, h2 => cases h1; cases h2; exact .err _ _))
   . cases e
 . cases e
section
variable {P : Program}
theorem Y9g (w : World) {o : Oper} {a : Act} {K : Act -> World -> Prop} {Q : Exit -> Act -> World -> Prop} (d s : Operand) (t t' : TypeId)
 (ho : o.op = .call { callee := .builtin .copy, args := #[d, s], argTypes := #[t, t'] }) (v u : Value) (hd : a.eval d = v) (hs : a.eval s = u) {v' : Value} {w' : World}
 (hr : (Builtin.copy_ #[t, t'] o.type #[v, u]).run P w = .ok v' w') (h : K (a.put o.dst v') w') : o.wp P a w K Q := by
 unfold Oper.wp execOp
 simp only [ho, resolve, invoke, builtin, dE, gP, cX, List.map_toArray, fO, dJ, hd, hs, hr]
 exact h
theorem Zlx (w : World) {ops : Array Oper} {rest : List Oper} {o : Oper} {a : Act} {Q : Exit -> Act -> World -> Prop} (hgd : o.guard = none) (d s : Operand) (t t' : TypeId)
 (ho : o.op = .call { callee := .builtin .copy, args := #[d, s], argTypes := #[t, t'] }) (v u : Value) (hd : a.eval d = v) (hs : a.eval s = u) {v' : Value} {w' : World}
 (hr : (Builtin.copy_ #[t, t'] o.type #[v, u]).run P w = .ok v' w') (h : wpList P ops Q rest (a.put o.dst v') w') : wpList P ops Q (o :: rest) a w :=
 wpList_plain hgd fun _ hK => Y9g w d s t t' ho v u hd hs hr (hK _ _ h)
theorem Ztc {ops : Array Oper} {o : Oper} {a : Act} {w : World} {K : Act -> World -> Prop} {Q : Exit -> Act -> World -> Prop} {E : Prop}
 (hg : o.guard = none) (d x : Operand) (dT sT : TypeId) (hop : o.op = Op.call { callee := Callee.builtin Builtin.copy, args := #[d, x], argTypes := #[dT, sT] })
 (v u : Value) (hd : a.eval d = v) (hx : a.eval x = u) {v' : Value} {w' : World} (hr : (Builtin.copy_ #[dT, sT] o.type #[v, u]).run P w = .ok v' w') (hK : K (a.put o.dst v') w') :
 if Region.wanted o (yielded ops a.tmps) = true then Oper.wp P o a w K Q else E := by
 have hw : Region.wanted o (yielded ops a.tmps) = true := by simp [Region.wanted, hg]
 rw [if_pos hw]
 exact Y9g w d x dT sT hop v u hd hx hr hK
end
set_option maxHeartbeats 4000000 in
set_option maxRecDepth 100000 in
theorem Zp6 (a : Option Addr) (n c : Nat) (x : Value) (vc : Nat) (w w' : World) (va : Option Addr)
 (hn : 0 < n -> ∃ b off, a = some ⟨b, off, none⟩) (hrun : (Builtin.append_ #[92, 92] 92 #[.slice a n c, .slice va 1 vc]).run Tryz.prog w = .ok x w') :
 Calls Tryz.prog 130 #[.slice a n c, .int .i64 n, .slice va 1 vc] w fun e w1 => e = .returned x /\ w1 = w' := by
 go_enter Tryz.func130, Tryz.ntmps130
 cases a with
 | none =>
   have h0 : n = 0 := by
    rcases Nat.eq_zero_or_pos n with h | h
    . exact h
    . obtain ⟨b, off, e⟩ := hn h; cases e
   subst h0
   go_wp2_with (at_builtin; refine Lib.wpList_append_run _ rfl _ _ _ _ rfl _ _ rfl rfl _ _ hrun ?_)
   go_ret
   exact ⟨rfl, rfl⟩
 | some a =>
   obtain ⟨ab, ao, j0⟩ := a
   go_wp2_with (at_builtin; refine Lib.wpList_append_run _ rfl _ _ _ _ rfl _ _ rfl rfl _ _ hrun ?_)
   all_goals (go_ret; exact ⟨rfl, rfl⟩)
set_option maxHeartbeats 4000000 in
set_option maxRecDepth 100000 in
theorem Zir (b off n c i : Nat) (vc : Nat) (w W1 W2 : World) (va : Option Addr) (r1 r2 : Value) (hi : i < n) (hroom : n + 1 <= c) (hbig : n + 1 <= big)
 (hov : ∀ o lb cb, (callFunc 195 #[.slice va 1 vc, .slice (some ⟨b, o, none⟩) lb cb]).run Tryz.prog w = .ok (.value (.bool false)) w)
 (hcp1 : ∀ ty dc sc, (Builtin.copy_ #[92, 92] ty #[.slice (some ⟨b, off + (i + 1) * 4, none⟩) (n - i) dc, .slice (some ⟨b, off + i * 4, none⟩) (n + 1 - i) sc]).run Tryz.prog w.drew = .ok r1 W1)
 (hcp2 : ∀ ty dc, (Builtin.copy_ #[92, 92] ty #[.slice (some ⟨b, off + i * 4, none⟩) (n + 1 - i) dc, .slice va 1 vc]).run Tryz.prog W1 = .ok r2 W2) :
 Calls Tryz.prog 130 #[.slice (some ⟨b, off, none⟩) n c, .int .i64 i, .slice va 1 vc] w fun e w1 => e = .returned (.slice (some ⟨b, off, none⟩) (n + 1) c) /\ w1 = W2 := by
 have j0 : n + 1 <= 68719476736 := hbig
 have j2 : ¬ ((i : Int) = (n : Int)) := by omega
 have hw1 : IntKind.i64.wrap ((i : Int) + (1 : Int)) = (i : Int) + (1 : Int) := by rw [IntKind.wrap_i64]; omega
 have j6 : (0 : Int) <= (i : Int) + (1 : Int) := by omega
 have j3 : i <= n := by omega
 have j4 : ((i : Int) + (1 : Int)).toNat = i + 1 := by omega
 have j8 : ¬ (c = i + 1) := by omega
 have j7 : (i : Int) <= (n : Int) + (1 : Int) := by omega
 have j5 : ¬ (c = i) := by omega
 have j1 : Tryz.prog.follows .mixedOrders = true := by kernel_rfl
 go_enter Tryz.func130, Tryz.ntmps130
 go_wp2_with (simp only [hov])
 go_region_law_o (refine Ztc rfl _ _ 92 92 rfl _ _ (by simp [Act.eval, Act.put]) (by simp [Act.eval, Act.put]) (hcp1 _ _ _) ?_)
 go_wp2_with (at_builtin; refine Zlx _ rfl _ _ 92 92 rfl _ _ rfl rfl (hcp2 _ _) ?_)
 go_ret
 exact ⟨rfl, rfl⟩
set_option maxHeartbeats 4000000 in
set_option maxRecDepth 100000 in
theorem Zkc (b off n c i G nb : Nat) (vc : Nat) (w W1 W2 W3 : World) (va : Option Addr) (r1 r2 : Value) (hi : i < n) (hnc : n <= c) (hroom : c < n + 1) (hbig : n + 1 <= big) (hG : n + 1 <= G) (hG63 : G <= 9223372036854775807)
 (hrz : (Builtin.append_ #[92, 3] 92 #[.slice (some ⟨b, off, none⟩) i c, .int .i64 ((n : Int) + 1 - (i : Int))]).run Tryz.prog w = .ok (.slice (some ⟨nb, 0, none⟩) (n + 1) G) W1)
 (hcpA : ∀ ty dc, (Builtin.copy_ #[92, 92] ty #[.slice (some ⟨nb, i * 4, none⟩) (n + 1 - i) dc, .slice va 1 vc]).run Tryz.prog W1 = .ok r1 W2)
 (hcpB : ∀ ty dc sc, (Builtin.copy_ #[92, 92] ty #[.slice (some ⟨nb, (i + 1) * 4, none⟩) (n - i) dc, .slice (some ⟨b, off + i * 4, none⟩) (n - i) sc]).run Tryz.prog W2.drew = .ok r2 W3) :
 Calls Tryz.prog 130 #[.slice (some ⟨b, off, none⟩) n c, .int .i64 i, .slice va 1 vc] w fun e w1 => e = .returned (.slice (some ⟨nb, 0, none⟩) (n + 1) G) /\ w1 = W3 := by
 have j3 : ¬ ((i : Int) = (n : Int)) := by omega
 have j0 : n + 1 <= 68719476736 := hbig
 have ja : (c : Int) < (n : Int) + (1 : Int) := by omega
 have hw1 : IntKind.i64.wrap ((i : Int) + (1 : Int)) = (i : Int) + (1 : Int) := by rw [IntKind.wrap_i64]; omega
 have j7 : (0 : Int) <= (i : Int) + (1 : Int) := by omega
 have j4 : i <= n := by omega
 have j5 : ((i : Int) + (1 : Int)).toNat = i + 1 := by omega
 have j6 : ¬ (G = i) := by omega
 have j2 : ¬ (G = i + 1) := by omega
 have j9 : ¬ (c = i) := by omega
 have j8 : (i : Int) <= (n : Int) := by omega
 have j1 : Tryz.prog.follows .mixedOrders = true := by kernel_rfl
 go_enter Tryz.func130, Tryz.ntmps130
 go_wp2_with (first
  | (at_builtin; refine Lib.wpList_append_run _ rfl _ _ _ _ rfl _ _ rfl rfl _ _ hrz ?_)
  | (at_builtin; refine Zlx _ rfl _ _ 92 92 rfl _ _ rfl rfl (hcpA _ _) ?_))
 go_region_law_o (refine Ztc rfl _ _ 92 92 rfl (.slice (some ⟨nb, (i + 1) * 4, none⟩) (n - i) (G - (i + 1))) (.slice (some ⟨b, off + i * 4, none⟩) (n - i) (c - i)) (by simp [Act.eval, Act.put]) (by simp [Act.eval, Act.put]) (hcpB 3 (G - (i + 1)) (c - i)) ?_)
 go_wp2
 go_ret
 exact ⟨rfl, rfl⟩
theorem Zrk (w : World) (b vb vo o la ca lb cb : Nat) (hne : vb ≠ b) (hb : ∃ cs t, w.heap[b]? = some (.cells cs t (0, 0)) /\ cs.size ≠ 0) (hv : ∃ cs t, w.heap[vb]? = some (.cells cs t (0, 0))) :
 (callFunc 195 #[.slice (some ⟨vb, vo, none⟩) la ca, .slice (some ⟨b, o, none⟩) lb cb]).run Tryz.prog w = .ok (.value (.bool false)) w := by
 obtain ⟨cs, t, h1, h2⟩ := hb
 obtain ⟨cs2, t2, h3⟩ := hv
 have hz : ∀ w, (Go.sizeOf 97).run Tryz.prog w = .ok 4 w := fun w => by
  have hi : (Tryz.prog.info? 97).map (·.size) = some 4 := by kernel_rfl
  cases hq : Tryz.prog.info? 97 with
  | none => rw [hq] at hi; cases hi
  | some i =>
    rw [hq] at hi
    have hs : i.size = 4 := by simpa using hi
    simp [Go.sizeOf, typeInfo, hq, hs]
 rw [run_callFunc_extern Tryz.func195 (by kernel_rfl) (by kernel_rfl) (by kernel_rfl) (e := Extern.SlicesOverlaps.overlaps #[92, 92] #[4]) (by kernel_rfl),
  Lib.run_overlaps_apart w 92 4 97 (by kernel_rfl) 4 hz ⟨vb, vo, none⟩ ⟨b, o, none⟩ la ca lb cb hne t2 t cs2.size cs.size (by simp [World.shape?, h3]) (by simp [World.shape?, h1]) h2 (by simp [World.frozen?, h3]) (by simp [World.frozen?, h3])]
 rfl
theorem Zyu : InsWalk Tryz.prog 130 92 3 97 4 where
 und := by kernel_rfl
 undI := by kernel_rfl
 app := by kernel_rfl
 size := by kernel_rfl
 enter := ⟨_, Tryz.func130, by kernel_rfl, by kernel_rfl⟩
 end_ a n c x vc w w' va hn hrun := Zp6 a n c x vc w w' va hn hrun
 shift b off n c i vc w W1 W2 vb vo r1 r2 hi hr hbig hne hb hv h1 h2 := Zir b off n c i vc w W1 W2 (some ⟨vb, vo, none⟩) r1 r2 hi hr hbig (fun o lb cb => Zrk w b vb vo o 1 vc lb cb hne hb hv) h1 h2
 grow b off n c i G nb vc w W1 W2 W3 va r1 r2 hi hnc hr hbig hG hGm h1 h2 h3 := Zkc b off n c i G nb vc w W1 W2 W3 va r1 r2 hi hnc hr hbig hG hGm h1 h2 h3
end Go.Vm.T
set_option maxRecDepth 100000
namespace Go.Vm.T
open Go.Proofs
theorem Zxl : ∀ x ∈ Zth, Zr1 Tryz.prog x.1 x.2 = true /\ Zq2 x.2.code = true := fun x h => Bool.and_eq_true_iff.1 (cY.1 (show Zth.all (fun x => Zr1 Tryz.prog x.1 x.2 && Zq2 x.2.code) = true by kernel_rfl) x h)
theorem Zwc : ∀ x ∈ fns, Zr1 Tryz.prog x.1 x.2 = true := cY.1 (show fns.all (fun x => Zr1 Tryz.prog x.1 x.2) = true by kernel_rfl)
theorem Zvm : ∀ x ∈ Zny, Zr1 Tryz.prog x.1 x.2 = true := cY.1 (show Zny.all (fun x => Zr1 Tryz.prog x.1 x.2) = true by kernel_rfl)
theorem orders : Tryz.prog.follows .mixedOrders = true := by kernel_rfl
theorem Yd7 : Zei Tryz.prog Zrl Z5 = true := by kernel_rfl
theorem Ya2 : Zei Tryz.prog Zgd Z0 = true := by kernel_rfl
theorem Y8c : Zei Tryz.prog Zhb Z2 = true := by kernel_rfl
theorem Zoz : ∀ x ∈ Y3e, Z9f Tryz.prog x.2 x.1 /\ Z9z Tryz.prog x.1 :=
 dR.2 ⟨Z7c Yd7 orders, dR.2 ⟨Z7c Ya2 orders, dR.2 ⟨Z7c Y8c orders, dR.2 ⟨Y6o, dR.2 ⟨Y3k, fun x h => absurd h fU⟩⟩⟩⟩⟩
theorem Zp3 : ∀ x ∈ Y7d, Y75 Tryz.prog (Zxg x.2) x.1 /\ Z9z Tryz.prog x.1 :=
 dR.2 ⟨⟨Y84 Zyu, Zyu.enter⟩, fun x h => absurd h fU⟩
theorem Va {V : Type} {f : Nat} : ∀ {l : List (Nat × V)} {x : V}, Zak f l = some x -> (f, x) ∈ l
 | [], x, h => by cases h
 | y :: ys, x, h => by
   unfold Zak at h
   split at h
   . rename_i e; simp only [dM] at h; subst e; subst h; exact dC
   . exact eB _ (Va h)
end Go.Vm.T
end
