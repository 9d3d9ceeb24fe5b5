/-
  The document's stripes of places.
-/
import Derived.Test.YthehdcpjlddbpaaGreatStripes
namespace Go.Proofs.YthehdcpjlddbpaaGreat
open Go.RowKit
set_option linter.unusedVariables false

theorem take_contains {xs : List Int} {k : Nat} {y a : Int} (h : xs[k]? = some y) : (xs.take (k + 1)).contains a = ((xs.take k).contains a || (a == y)) := by
  rw [List.take_add_one, h]
  simp only [List.contains_append, Option.toList_some, List.contains_cons, List.contains_nil, Bool.or_false]

end Go.Proofs.YthehdcpjlddbpaaGreat
