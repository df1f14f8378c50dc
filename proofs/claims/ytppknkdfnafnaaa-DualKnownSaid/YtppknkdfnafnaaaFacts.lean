/- The closed facts of DualKnown's row, one at a time. -/
import Derived.Test.YtppknkdfnafnaaaRows
import Derived.ProofKit
namespace Go.Proofs.Ytppknkdfnafnaaa.dualKnown
open Go.ChangeShapes Go.WideShapes Go.ChangeAt Go.RowKit
/-! ### The closed facts of the row, one at a time -/
theorem fact1 : (Rows.dualKnownRow.inPlace == Try.pinned.checked.prog.inPlace 3) = true := by kernel_rfl
theorem fact2 : (Rows.dualKnownRow.unfollowed == Try.pinned.checked.prog.unfollowed 3) = true := by kernel_rfl
theorem fact3 : (Rows.dualKnownRow.recurses == Try.pinned.checked.prog.recurses 3) = true := by kernel_rfl
theorem fact4 : (Rows.dualKnownRow.named == Try.pinned.checked.prog.varsNamed 3) = true := by kernel_rfl
theorem facts : joinedFacts Try.pinned.checked.prog 3 Try.f3 Rows.dualKnownSpec Rows.dualKnownRow = true := by
  unfold joinedFacts
  rw [fact1, fact2, fact3, fact4]
  kernel_rfl
end Go.Proofs.Ytppknkdfnafnaaa.dualKnown
