/-
  Readers of bytes
-/
import Derived.Test.YtjiklhnijhiphaaRd
import Derived.Test.YtjiklhnijhiphaaFnsE
section
set_option linter.unusedVariables false
set_option linter.unusedSimpArgs false
namespace Go.Vm.T
open Go.Proofs
theorem rByte : Rdr Try.prog t_uint8 (fun n : Int => [.v (.int .u8 n)]) (fun n => IntKind.u8.min ≤ n ∧ n ≤ IntKind.u8.max) := .int (by kernel_rfl) (by kernel_rfl)
theorem byteSlice : Try.prog.underlying t_S_uint8 = some (.slice t_uint8) := by kernel_rfl
theorem slB : Try.prog.cellsOf t_S_uint8 = 1 := by kernel_rfl
theorem bytePos : 0 < Try.prog.cellsOf t_uint8 := by decide +kernel
theorem bytes_of {xs : List Int} (h : xs.length ≤ maxLen ∧ ∀ x ∈ xs, IntKind.u8.min ≤ x ∧ x ≤ IntKind.u8.max) : Bytes xs := ⟨h.1, fun n hn => h.2 n hn⟩
end Go.Vm.T
end
