/- The closed facts of RatKnown's row, one at a time. -/
import Derived.Test.YtclpbombaffmgaaDoorRows
import Derived.ProofKit
namespace Go.Proofs.YtclpbombaffmgaaDoor.ratKnown
open Go.ChangeShapes Go.WideShapes Go.ChangeAt Go.RowKit
/-! ### The closed facts of the row, one at a time -/
theorem fact1 : (Rows.ratKnownRow.inPlace == Tryd.pinned.checked.prog.inPlace 3) = true := by kernel_rfl
theorem fact2 : (Rows.ratKnownRow.unfollowed == Tryd.pinned.checked.prog.unfollowed 3) = true := by kernel_rfl
theorem fact3 : (Rows.ratKnownRow.recurses == Tryd.pinned.checked.prog.recurses 3) = true := by kernel_rfl
theorem fact4 : (Rows.ratKnownRow.named == Tryd.pinned.checked.prog.varsNamed 3) = true := by kernel_rfl
theorem facts : joinedFacts Tryd.pinned.checked.prog 3 Tryd.f3 Rows.ratKnownSpec Rows.ratKnownRow = true := by
  unfold joinedFacts
  rw [fact1, fact2, fact3, fact4]
  kernel_rfl
end Go.Proofs.YtclpbombaffmgaaDoor.ratKnown
