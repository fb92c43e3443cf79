/-
  Contracts of strconv at this translation; the lowered code is the program's, by the kernel
-/
import Derived.Test.YtcceojmajfinpaaGreatDoorProg
import Derived.KernelRfl
import Derived.Shelf.Strconv.Itoa3
import Derived.Shelf.Strconv.ErrVar
import Derived.Shelf.Strconv.Atoi
import Derived.Test.YtcceojmajfinpaaGreatDoorVmD
import Derived.WalkKit
import Derived.Shelf.RegionOpenPlain
import Derived.Lib.Walk
import Derived.Lib.SliceRun
import Derived.Lib.JoinLaws
import Derived.Lib.AppendZerosOnto
import Derived.Lib.Overlaps
import Derived.Laws.Externs
import Derived.Laws.IdiomCopy
import Derived.Test.YtcceojmajfinpaaGreatDoorCode
section
set_option linter.unusedVariables false
set_option linter.unusedSimpArgs false
set_option linter.unusedSectionVars false
namespace Go.Proofs
def Tryz.laysItoa_ren : Go.Shelf.Ren := ⟨fun | 171 => 263 | 243 => 266 | 246 => 268 | 283 => 271 | 284 => 272 | 285 => 273 | 286 => 274 | 129 => 233 | 317 => 280 | 318 => 281 | 319 => 282 | 320 => 283 | 337 => 287 | 338 => 288 | n => n, fun | 3 => 3 | 9 => 9 | 2 => 2 | 4 => 4 | 171 => 276 | 0 => 0 | 53 => 249 | 37 => 41 | 5 => 5 | 173 => 278 | 212 => 287 | 51 => 247 | 20 => 20 | 213 => 288 | 46 => 223 | 232 => 300 | 233 => 301 | n => n, fun | 17 => 0 | 18 => 3 | 19 => 4 | n => n⟩
theorem Tryz.laysItoa : Go.Proofs.LaysM.n171 Tryz.prog Tryz.laysItoa_ren := by
 repeat' first | kernel_rfl | (intro w; kernel_rfl) | constructor
def Tryz.laysAtoi_ren : Go.Shelf.Ren := ⟨fun | 172 => 267 | 244 => 269 | 245 => 270 | 247 => 275 | 279 => 276 | 280 => 277 | 281 => 278 | 282 => 279 | 287 => 284 | 316 => 285 | 171 => 263 | 205 => 286 | 321 => 289 | 322 => 290 | 243 => 266 | 246 => 268 | 283 => 271 | 284 => 272 | 285 => 273 | 286 => 274 | 129 => 233 | 317 => 280 | 318 => 281 | 319 => 282 | 320 => 283 | 337 => 287 | 338 => 288 | n => n, fun | 9 => 9 | 3 => 3 | 75 => 271 | 76 => 272 | 4 => 4 | 5 => 5 | 167 => 280 | 37 => 41 | 0 => 0 | 85 => 281 | 2 => 2 | 168 => 283 | 53 => 249 | 175 => 289 | 46 => 223 | 210 => 293 | 127 => 296 | 145 => 299 | 143 => 297 | 21 => 21 | 171 => 276 | 173 => 278 | 212 => 287 | 51 => 247 | 20 => 20 | 213 => 288 | 232 => 300 | 233 => 301 | 80 => 302 | n => n, fun | 15 => 1 | 16 => 2 | 17 => 0 | 18 => 3 | 19 => 4 | n => n⟩
theorem Tryz.laysAtoi : Go.Proofs.Lays.n172 Tryz.prog Tryz.laysAtoi_ren := by
 repeat' first | kernel_rfl | (intro w; kernel_rfl) | constructor
def Tryz.laysAtoiC_ren : Go.Shelf.Ren := ⟨fun | 172 => 267 | 244 => 269 | 245 => 270 | 247 => 275 | 279 => 276 | 280 => 277 | 281 => 278 | 282 => 279 | 287 => 284 | 316 => 285 | 171 => 263 | 205 => 286 | 321 => 289 | 322 => 290 | 243 => 266 | 246 => 268 | 283 => 271 | 284 => 272 | 285 => 273 | 286 => 274 | 129 => 233 | 317 => 280 | 318 => 281 | 319 => 282 | 320 => 283 | 337 => 287 | 338 => 288 | n => n, fun | 9 => 9 | 3 => 3 | 75 => 271 | 76 => 272 | 4 => 4 | 5 => 5 | 167 => 280 | 37 => 41 | 0 => 0 | 85 => 281 | 2 => 2 | 168 => 283 | 53 => 249 | 175 => 289 | 46 => 223 | 210 => 293 | 127 => 296 | 145 => 299 | 143 => 297 | 21 => 21 | 171 => 276 | 173 => 278 | 212 => 287 | 51 => 247 | 20 => 20 | 213 => 288 | 232 => 300 | 233 => 301 | 80 => 302 | n => n, fun | 15 => 1 | 16 => 2 | 17 => 0 | 18 => 3 | 19 => 4 | n => n⟩
theorem Tryz.laysAtoiC : Go.Proofs.LaysC.n172 Tryz.prog Tryz.laysAtoiC_ren := by
 repeat' first | kernel_rfl | (intro w; kernel_rfl) | constructor
end Go.Proofs
namespace Go.Vm.T
open Go.RowKit Go.Lib Go.Proofs
theorem Ztp {w : World} (k : Nat) (os : Array Obj) : Below w.heap.size w (Go.Sort.grow (w.drewN k) os) := by
 exact ⟨rfl, rfl, rfl, by simp [Go.Sort.grow], fun i hi => by
  show (w.heap ++ os)[i]? = w.heap[i]?
  rw [gF hi]⟩
theorem Y8c : Z9i Tryz.prog Zuy 263 /\ Zae Tryz.prog 263 := by
 refine ⟨fun S w zs rs xs e hS hG r => ?_, ⟨_, Tryz.func263, by kernel_rfl, by kernel_rfl⟩⟩
 unfold Zuy at e
 split at e
 . rename_i n
   split at e
   . rename_i hn
     simp only [dK] at e
     subst e
     obtain ⟨x, j0, rfl, rx, rt⟩ := r.inv_cons
     have := rt.inv_nil
     subst this
     obtain ⟨rfl, _⟩ := R.v_inv rx
     refine (Any.strconv_Itoa Tryz.laysItoa n hn.1 hn.2 w (hG.pow (by kernel_rfl))).mono (fun en w1 he => ?_)
     obtain ⟨rfl, k, os, rfl⟩ := he
     exact Zy6 hS hG (Ztp k os) (fun _ => rfl) (.v _ rfl)
   . cases e
 . cases e
theorem Zqq {B : Nat} {a w : World} (h : Below B a w) (hB : B <= w.heap.size) (T : TypeId) (t : ByteArray) : Below B a (Lib.bytesWorld w T t) := by
 refine h.trans ?_
 have h1 : Below B w (w.drew.alloc (.cells (Lib.bytesCells w T t) T)) := ((Below.refl B w).drew).alloc hB _
 refine h1.trans ?_
 unfold Lib.bytesWorld World.freeze
 rw [if_neg (by decide)]
 refine ⟨rfl, rfl, rfl, by simp, fun i hi => ?_⟩
 have j0 : w.heap.size ≠ i := by omega
 simp only [Array.getElem?_modify, j0, if_false]
theorem Zxs (s : ByteArray) (n : Int) (hl : s.size <= 18) (h : Lib.atoi s.data.toList = some n) (w : World) : Calls Tryz.prog 267 #[.string s] w fun e w1 => e = .returned (.tuple #[.int .i64 n, .nilIface]) /\ Below w.heap.size w w1 :=
 (Any.strconv_Atoi Tryz.laysAtoi s n hl h w).mono (fun e w1 he => ⟨he.1, by obtain ⟨_, t, rfl⟩ := he; exact Zqq (Below.refl _ _) (dM _) _ _⟩)
theorem Zzt (s : ByteArray) (hl : s.size <= 18) (h : Lib.atoi s.data.toList = none) (w : World) (hv : ∃ tp p, w.var? Tryz.prog "strconv.ErrSyntax" = some #[.iface tp p]) : Calls Tryz.prog 267 #[.string s] w fun e w1 => (∃ tp v, e = .returned (.tuple #[.int .i64 0, .iface tp v])) /\ Below w.heap.size w w1 := by
 obtain ⟨tp, p, hv⟩ := hv
 refine (Any.strconv_Atoi_err_var Tryz.laysAtoiC s hl h tp p w hv).mono (fun e w1 he => ?_)
 obtain ⟨N, h1, _, _, h2⟩ := he
 exact ⟨⟨_, _, h1⟩, h2⟩
theorem Y5g : Z9i Tryz.prog Znx 267 /\ Zae Tryz.prog 267 := by
 refine ⟨fun S w zs rs xs e hS hG r => ?_, ⟨_, Tryz.func267, by kernel_rfl, by kernel_rfl⟩⟩
 unfold Znx at e
 split at e
 . rename_i t
   split at e
   . rename_i hn
     obtain ⟨x, j1, rfl, rx, rt⟩ := r.inv_cons
     have := rt.inv_nil
     subst this
     obtain ⟨rfl, _⟩ := R.v_inv rx
     split at e
     . rename_i n j0
       simp only [dK] at e
       subst e
       refine (Zxs t n hn j0 w).mono (fun en w1 he => ?_)
       obtain ⟨rfl, hb⟩ := he
       exact Zhe hS hG hb (fun _ => rfl) (.tup [_, _] [_, _] rfl (fun i x y h1 h2 => by
        match i, h1, h2 with
        | 0, h1, h2 => cases h1; cases h2; exact .v _ rfl
        | 1, h1, h2 => cases h1; cases h2; exact .v _ rfl))
     . rename_i j0
       simp only [dK] at e
       subst e
       refine (Zzt t hn j0 w (hG.syn (by kernel_rfl))).mono (fun en w1 he => ?_)
       obtain ⟨⟨tp, v, rfl⟩, hb⟩ := he
       exact Zhe hS hG hb (fun _ => rfl) (.tup [_, _] [_, _] rfl (fun i x y h1 h2 => by
        match i, h1, h2 with
        | 0, h1, h2 => cases h1; cases h2; exact .v _ rfl
        | 1, h1, h2 => cases h1; cases h2; exact .err _ _))
   . cases e
 . cases e
section
variable {P : Program}
end
end Go.Vm.T
set_option maxRecDepth 100000
namespace Go.Vm.T
open Go.Proofs
theorem Zzl : ∀ x ∈ Zvb, Zsz Tryz.prog x.1 x.2 = true /\ Zs6 x.2.code = true := fun x h => Bool.and_eq_true_iff.1 (cW.1 (show Zvb.all (fun x => Zsz Tryz.prog x.1 x.2 && Zs6 x.2.code) = true by kernel_rfl) x h)
theorem Zy9 : ∀ x ∈ fns, Zsz Tryz.prog x.1 x.2 = true := cW.1 (show fns.all (fun x => Zsz Tryz.prog x.1 x.2) = true by kernel_rfl)
theorem Zxj : ∀ x ∈ Zpv, Zsz Tryz.prog x.1 x.2 = true := cW.1 (show Zpv.all (fun x => Zsz Tryz.prog x.1 x.2) = true by kernel_rfl)
theorem orders : Tryz.prog.follows .mixedOrders = true := by kernel_rfl
theorem Ybf : Zjr Tryz.prog Zh7 Z0 = true := by kernel_rfl
theorem Yc4 : Zjr Tryz.prog Zhu Z2 = true := by kernel_rfl
theorem Zr1 : ∀ x ∈ Y5b, Z9i Tryz.prog x.2 x.1 /\ Zae Tryz.prog x.1 :=
 List.forall_mem_cons.2 ⟨Zbb Ybf orders, List.forall_mem_cons.2 ⟨Zbb Yc4 orders, List.forall_mem_cons.2 ⟨Y8c, List.forall_mem_cons.2 ⟨Y5g, fun x h => absurd h fN⟩⟩⟩⟩
theorem Zr6 : ∀ x ∈ Y92, Yad Tryz.prog (Y98 x.2) x.1 /\ Zae Tryz.prog x.1 :=
 fun x h => absurd h fN
theorem Vn {J : Type} {f : Nat} : ∀ {l : List (Nat × J)} {x : J}, Zak f l = some x -> (f, x) ∈ l
 | [], x, h => by cases h
 | y :: ys, x, h => by
   unfold Zak at h
   split at h
   . rename_i e; simp only [dK] at h; subst e; subst h; exact dA
   . exact dX _ (Vn h)
end Go.Vm.T
end
