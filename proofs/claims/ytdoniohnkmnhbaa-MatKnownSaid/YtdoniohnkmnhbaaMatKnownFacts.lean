/- The closed facts of MatKnown's row, one at a time. -/
import Derived.Test.YtdoniohnkmnhbaaRows
import Derived.ProofKit
namespace Go.Proofs.Ytdoniohnkmnhbaa.matKnown
open Go.ChangeShapes Go.WideShapes Go.ChangeAt Go.RowKit
/-! ### The closed facts of the row, one at a time -/
theorem fact1 : (Rows.matKnownRow.inPlace == Try.pinned.checked.prog.inPlace 3) = true := by kernel_rfl
theorem fact2 : (Rows.matKnownRow.unfollowed == Try.pinned.checked.prog.unfollowed 3) = true := by kernel_rfl
theorem fact3 : (Rows.matKnownRow.recurses == Try.pinned.checked.prog.recurses 3) = true := by kernel_rfl
theorem fact4 : (Rows.matKnownRow.named == Try.pinned.checked.prog.varsNamed 3) = true := by kernel_rfl
theorem facts : joinedFacts Try.pinned.checked.prog 3 Try.f3 Rows.matKnownSpec Rows.matKnownRow = true := by
  unfold joinedFacts
  rw [fact1, fact2, fact3, fact4]
  kernel_rfl
end Go.Proofs.Ytdoniohnkmnhbaa.matKnown
