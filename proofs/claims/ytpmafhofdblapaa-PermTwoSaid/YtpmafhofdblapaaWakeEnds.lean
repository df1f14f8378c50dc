/- The closed call wakes() ends in true. -/
import Derived.Test.YtpmafhofdblapaaEq
import Derived.Test.YtpmafhofdblapaaSh29
import Derived.KernelRfl
namespace Go.Sh.Of
open Go
theorem fns_eq : fnsOf ents = fnl := rfl
set_option maxRecDepth 1000000 in
theorem wakeT : isTrue (runPF tab fast 100000 100 13 [] noRows) = true := by kernel_rfl
theorem wake : Ends Go.Proofs.Try.prog 13 (.bool true) := Ends.of_plain (l := ents) entsOk tab_eq comp within mixed wakeT
end Go.Sh.Of
