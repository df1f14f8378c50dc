/- What the call of DualKnown comes to, reckoned by the kernel. -/
import Derived.Test.YtppknkdfnafnaaaEq
import Derived.KernelRfl
namespace Go.Proofs.Ytppknkdfnafnaaa.dualKnown
open Go.Sh
set_option maxRecDepth 1000000 in
theorem ends : isTrue (runPF Go.Sh.Of.tab fast 100000 100 3 [] noRows) = true := by kernel_rfl
end Go.Proofs.Ytppknkdfnafnaaa.dualKnown
