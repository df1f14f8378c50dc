/- What the call of MatKnown comes to, reckoned by the kernel. -/
import Derived.Test.YtdoniohnkmnhbaaMatKnownCf
namespace Go.Proofs.Ytdoniohnkmnhbaa.matKnown
open Go.Sh
set_option maxRecDepth 1000000 in
theorem ends : isTrue (run2 (fun f => assoc Go.Sh.Of.fnl f) 1000 40 3 [] noRows) = true := by kernel_rfl

end Go.Proofs.Ytdoniohnkmnhbaa.matKnown
