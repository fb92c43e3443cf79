/-
  What the listed variables give, and a start that meets the condition
-/
import Derived.Test.YtcceojmajfinpaaGreatDoorFnsE
import Derived.Test.YtcceojmajfinpaaGreatDoorRows
import Derived.LaidMore
import Derived.LaidHandle
import Derived.Lib.LaidTab
import Derived.Stop.LaidErr
import Derived.Stop.Joined
import Derived.MakeChecks
import Derived.ProofKit
section
set_option linter.unusedVariables false
set_option linter.unusedSimpArgs false
set_option linter.unusedSectionVars false
namespace Go.Proofs.YtcceojmajfinpaaGreatDoor
open Go.ChangeShapes Go.WideShapes Go.ChangeAt Go.RowKit Go.Vm Go.Vm.T
theorem own : ownKnob Tryz.prog.godebug = none := by kernel_rfl
theorem lay : laidOutB Tryz.prog = true := by kernel_rfl
theorem Yb2 : Tryz.prog.underlying Y2z = some .bool := by kernel_rfl
noncomputable abbrev Zuo : List (String × DataW Unit) := [("math/bits.deBruijn32tab", Rows.laid_math_bits_deBruijn32tab), ("math/bits.deBruijn64tab", Rows.laid_math_bits_deBruijn64tab), ("internal/strconv.uint64pow10", Rows.laid_internal_strconv_uint64pow10), ("strconv.ErrRange", Rows.laid_strconv_ErrRange), ("strconv.ErrSyntax", Rows.laid_strconv_ErrSyntax)]
theorem Y1r (os : Os) (args : Array Value) : laidMetH Tryz.prog Zuo ((World.doorLaid Tryz.prog 100 os).forCall (fun _ _ => 0) ⟨#[], args, []⟩).memory :=
 laidMetH_of_parts3 (fuel := 8) (laidMet_of_run' 8 (by kernel_rfl) (by kernel_rfl)) (by kernel_rfl) (by kernel_rfl)
theorem Y80 : "*" ++ "errors.errorString" = "*errors.errorString" := by decide
theorem Ydi (u : TypeId) (h : Tryz.prog.typeName? 3 u = some "*errors.errorString") : u = 297 :=
 typeName_ptr_named (nm := "errors.errorString") (by rw [Y80]; kernel_rfl) (by kernel_rfl) (by decide) u (by rw [Y80]; exact h)
theorem Yev : Tryz.prog.globalNamed "internal/strconv.uint64pow10" = some 0 := by kernel_rfl
theorem Yei : Tryz.prog.globalNamed "strconv.ErrSyntax" = some 1 := by kernel_rfl
theorem Ydq : Tryz.prog.globalNamed "strconv.ErrRange" = some 2 := by kernel_rfl
noncomputable def Ydl : Field := match Tryz.prog.underlying 299 with
 | some (.struct fs) => fs.getD 0 default
 | _ => default
noncomputable def Y8x : Array (String × TypeId) := match Tryz.prog.underlying 271 with
 | some (.interface ms) => ms
 | _ => #[]
theorem Zt9 {W : World} {n : String} {g : Nat} {cs : Array Value} (hg : Tryz.prog.globalNamed n = some g) (h : W.var? Tryz.prog n = some cs) : g < W.heap.size := by
 unfold World.var? at h
 rw [hg] at h
 simp only [gD] at h
 rcases Nat.lt_or_ge g W.heap.size with h' | h'
 . exact h'
 . simp [Array.getElem?_eq_none h'] at h
theorem Y4t {W : World} (h : laidMetH Tryz.prog Zuo W) : GlobOk Tryz.prog (Zyd W) W := by
 rw [MakeChecks.laidMetH_plain _ _ _ (by kernel_rfl)] at h
 have h3 := h.tail.tail
 have hT : Lib.TabIs Tryz.prog W "internal/strconv.uint64pow10" .u64 Lib.pow10Tab := Lib.tabIs_of_head (t := 287) (e := 249) (n := 20) Yev (by kernel_rfl) (by kernel_rfl) (by kernel_rfl) (by kernel_rfl) (by kernel_rfl) h3
 obtain ⟨a1, s1, hr, _⟩ := laid_sentinel (ti := 271) (tp := 297) (te := 299) (ts := 9) (ms := Y8x) (f := Ydl) h3.tail Ydq (by kernel_rfl) (by kernel_rfl) Ydi (by kernel_rfl) (by kernel_rfl) (by kernel_rfl) (by kernel_rfl) (by kernel_rfl) (by kernel_rfl) (by kernel_rfl)
 obtain ⟨a2, s2, hs, _⟩ := laid_sentinel (ti := 271) (tp := 297) (te := 299) (ts := 9) (ms := Y8x) (f := Ydl) h3.tail.tail Yei (by kernel_rfl) (by kernel_rfl) Ydi (by kernel_rfl) (by kernel_rfl) (by kernel_rfl) (by kernel_rfl) (by kernel_rfl) (by kernel_rfl) (by kernel_rfl)
 refine ⟨fun nm hm g hg => ?_, fun _ => hT, fun _ => ⟨_, _, hs⟩, fun _ => ⟨_, _, hr⟩⟩
 simp only [Z27, eK, fU, or_false] at hm
 rcases hm with rfl | rfl | rfl
 . exact Zt9 hg hT
 . exact Zt9 hg hs
 . exact Zt9 hg hr
end Go.Proofs.YtcceojmajfinpaaGreatDoor
end
