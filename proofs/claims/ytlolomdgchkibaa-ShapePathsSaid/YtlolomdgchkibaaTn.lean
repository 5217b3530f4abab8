/-
  What writes and pages read as, at a law's door.
-/
import Derived.Test.YtlolomdgchkibaaKi
import Derived.Test.YtlolomdgchkibaaTc
set_option linter.unusedVariables false
namespace Go.Proofs.Ytlolomdgchkibaa
open Go Go.G Go.ChangeShapes Go.WideShapes Go.ChangeAt Go.RowKit
theorem opens_bytes : Opens Try.prog 23 (.slice .byte) := opens_slice Try.underlying23 (by kernel_rfl) (opens_byte Try.underlying5)
theorem opens_writes : Opens Try.prog 40 (.slice tWrite) := opens_slice Try.underlying40 (by kernel_rfl) (opens_pair Try.underlying55 rfl (by kernel_rfl) rfl rfl (by kernel_rfl) (by kernel_rfl) (opens_int Try.underlying3) opens_bytes)
theorem opens_ints : Opens Try.prog 27 (.slice (.int .i64)) := opens_slice Try.underlying27 (by kernel_rfl) (opens_int Try.underlying3)
end Go.Proofs.Ytlolomdgchkibaa
