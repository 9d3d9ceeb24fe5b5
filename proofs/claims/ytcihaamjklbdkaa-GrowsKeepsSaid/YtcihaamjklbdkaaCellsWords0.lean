/-
  Words of cells that hold nothing.
-/
import Derived.Test.YtcihaamjklbdkaaCellsOps
import Derived.Maps.RangeWalk
namespace Go.Proofs.Ytcihaamjklbdkaa
open Go.RowKit Go.Maps
set_option linter.unusedVariables false

end Go.Proofs.Ytcihaamjklbdkaa
