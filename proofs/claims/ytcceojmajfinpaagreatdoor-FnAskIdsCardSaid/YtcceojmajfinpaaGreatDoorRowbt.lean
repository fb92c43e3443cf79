/-
  The law answers true for every input, with its row and its tied card
-/
import Derived.Test.YtcceojmajfinpaaGreatDoorOk
import Derived.Test.YtcceojmajfinpaaGreatDoorVmC
import Derived.Test.YtcceojmajfinpaaGreatDoorFnsL
namespace Go.Vm.T
open Go.Proofs
theorem Y19 : Rdr Tryz.prog W5 (fun n : Int => [.v (.int .u8 n)]) (fun n => IntKind.u8.min <= n /\ n <= IntKind.u8.max) := .int (by kernel_rfl) (by kernel_rfl)
theorem Zbm : Tryz.prog.underlying Znz = some (.slice W5) := by kernel_rfl
theorem slB : Tryz.prog.cellsOf Znz = 1 := by kernel_rfl
theorem Zie : 0 < Tryz.prog.cellsOf W5 := by decide +kernel
theorem Zdp {xs : List Int} (h : xs.length <= maxLen /\ ∀ x ∈ xs, IntKind.u8.min <= x /\ x <= IntKind.u8.max) : Bytes xs := ⟨h.1, fun n hn => h.2 n hn⟩
end Go.Vm.T
