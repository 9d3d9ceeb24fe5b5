/-
  Words of cells that hold nothing.
-/
import Derived.Test.YtddflihgadlafaaCellsOps
import Derived.Maps.RangeWalk
namespace Go.Proofs.Ytddflihgadlafaa
open Go.RowKit Go.Maps
set_option linter.unusedVariables false

end Go.Proofs.Ytddflihgadlafaa
