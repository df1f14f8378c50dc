/- Contracts: slices of structs, boxes, closures. -/
import Derived.Test.YtpdkfleleebdaaaGreatDoorSh30
set_option linter.unusedVariables false
set_option linter.unusedSimpArgs false
namespace Go.Sh
open Go
end Go.Sh
