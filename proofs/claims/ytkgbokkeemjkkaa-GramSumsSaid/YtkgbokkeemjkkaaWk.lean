/- The closed call that each statement of the layer asks first ends in true. -/
import Derived.Test.YtkgbokkeemjkkaaEq
import Derived.Test.YtkgbokkeemjkkaaSh29
import Derived.KernelRfl
namespace Go.Sh.Of
open Go
/-- The closed call is known. -/
def wk : CallC := closedO [(9, .bool true)]
set_option maxRecDepth 1000000 in
theorem wakeT : isTrue (runPF tab fast 100000 100 9 [] noRows) = true := by kernel_rfl
theorem wake : Ends Go.Proofs.Try.prog 9 (.bool true) := Ends.of_plain (l := ents) entsOk tab_eq comp within mixed wakeT
theorem wkOk : CallOK Go.Proofs.Try.prog wk ∧ ExtC wk := one_ok wake
end Go.Sh.Of

