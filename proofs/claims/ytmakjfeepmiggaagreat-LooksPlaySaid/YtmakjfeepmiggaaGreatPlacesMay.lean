/-
  How many slots there are; may tables grow?
-/
import Derived.Test.YtmakjfeepmiggaaGreatPlaces
namespace Go.Proofs.YtmakjfeepmiggaaGreat
open Go.RowKit
set_option linter.unusedVariables false

theorem ret_bool {a b : Bool} (h : a = b) : Ending.returned (.bool a) = .returned (.bool b) := by rw [h]
def spots (v : Int) : Int := 4 * (tsize (asOld v) + tsize (asNow v))
theorem as_range (v : Int) : 0 ≤ asOld v ∧ asOld v < 256 ∧ 0 ≤ asNow v ∧ asNow v < 256 := by
  unfold asNow asOld
  split <;> split <;> omega
/-- May a table of so many bits grow? -/
def pmay (first budget bits : Int) : Bool := !(tsize first == 0 || tsize bits == 0 || tsize (bits + 1) == 0) && decide (4 * (tsize bits + tsize (bits + 1)) ≤ 8 * max (min budget 65536) (4 * tsize first))
end Go.Proofs.YtmakjfeepmiggaaGreat
