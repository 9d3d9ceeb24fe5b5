/-
  How many slots there are; may tables grow?
-/
import Derived.Test.YtdbgfidnccpmdaaGreatPlaces
namespace Go.Proofs.YtdbgfidnccpmdaaGreat
open Go.RowKit
set_option linter.unusedVariables false

theorem ret_bool {a b : Bool} (h : a = b) : Ending.returned (.bool a) = .returned (.bool b) := by rw [h]
def spots (v : Int) : Int := 4 * (tsize (asOld v) + tsize (asNow v))
theorem as_range (v : Int) : 0 ≤ asOld v ∧ asOld v < 256 ∧ 0 ≤ asNow v ∧ asNow v < 256 := by
  unfold asNow asOld
  split <;> split <;> omega
theorem spots_any (v : Int) (hv : (Lit.int .u64 v).wf = true) (w : World) : Calls Tryz.prog 134 #[.int .u64 v] w fun e w' => e = .returned (.int .i64 (spots v)) ∧ w' = w := by
  have h1 := tsize_le (asOld v)
  have h2 := tsize_le (asNow v)
  unfold spots
  have hk := as_any v hv w
  generalize asOld v = o at *
  generalize asNow v = n at *
  go_enter Tryz.func134, Tryz.ntmps134
  go_wp2_with (first | (go_at_call 53; refine hk.mono ?_; rintro e w' ⟨rfl, rfl⟩) | (go_at_call 121; refine (size_any _ _).mono ?_; rintro e w' ⟨rfl, rfl⟩))
  go_ret
  exact ⟨rfl, rfl⟩

/-- May a table of so many bits grow? -/
def pmay (first budget bits : Int) : Bool := !(tsize first == 0 || tsize bits == 0 || tsize (bits + 1) == 0) && decide (4 * (tsize bits + tsize (bits + 1)) ≤ 8 * max (min budget 65536) (4 * tsize first))
end Go.Proofs.YtdbgfidnccpmdaaGreat
