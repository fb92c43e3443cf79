/-
  The law answers true for every input, with its row and its tied card
-/
import Derived.Test.YtcceojmajfinpaaGreatDoorOk
import Derived.Test.YtcceojmajfinpaaGreatDoorVmC
import Derived.Test.YtcceojmajfinpaaGreatDoorFnsL
namespace Go.Vm.T
open Go.Proofs
theorem Ybj : Rdr Tryz.prog Vf (fun n : Int => [.v (.int .u8 n)]) (fun n => IntKind.u8.min <= n /\ n <= IntKind.u8.max) := .int (by kernel_rfl) (by kernel_rfl)
theorem Zwi : Tryz.prog.underlying Zm9 = some (.slice Vf) := by kernel_rfl
theorem slB : Tryz.prog.cellsOf Zm9 = 1 := by kernel_rfl
theorem Y46 : 0 < Tryz.prog.cellsOf Vf := by decide +kernel
theorem Y1v {xs : List Int} (h : xs.length <= maxLen /\ ∀ x ∈ xs, IntKind.u8.min <= x /\ x <= IntKind.u8.max) : Bytes xs := ⟨h.1, fun n hn => h.2 n hn⟩
end Go.Vm.T
