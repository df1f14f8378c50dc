/- The closed call that each statement of the layer asks first ends in true. -/
import Derived.Test.YtcecdmacoklhpaaEq
import Derived.Test.YtcecdmacoklhpaaSh29
import Derived.KernelRfl
namespace Go.Sh.Of
open Go
/-- The closed call is known. -/
def wk : CallC := closedO [(5, .bool true)]
set_option maxRecDepth 1000000 in
theorem wakeT : isTrue (runPF tab fast 100000 100 5 [] noRows) = true := by kernel_rfl
theorem wake : Ends Go.Proofs.Try.prog 5 (.bool true) := Ends.of_plain (l := ents) entsOk tab_eq comp within mixed wakeT
theorem wkOk : CallOK Go.Proofs.Try.prog wk ∧ ExtC wk := one_ok wake
end Go.Sh.Of
