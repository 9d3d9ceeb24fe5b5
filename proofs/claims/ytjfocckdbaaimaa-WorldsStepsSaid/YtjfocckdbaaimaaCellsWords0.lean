/-
  Words of cells that hold nothing.
-/
import Derived.Test.YtjfocckdbaaimaaCellsOps
import Derived.Maps.RangeWalk
namespace Go.Proofs.Ytjfocckdbaaimaa
open Go.RowKit Go.Maps
set_option linter.unusedVariables false

end Go.Proofs.Ytjfocckdbaaimaa
