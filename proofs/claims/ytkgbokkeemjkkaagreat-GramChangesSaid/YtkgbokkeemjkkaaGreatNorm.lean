/- GramNorms: the walk. -/
import Derived.Test.YtkgbokkeemjkkaaGreatDot
set_option linter.unusedVariables false
set_option linter.unusedSimpArgs false
namespace Go.Sh.Of
open Go Go.Sh
end Go.Sh.Of
