/-
  How many slots there are; may tables grow?
-/
import Derived.Test.YtdabcnjjbfmkaaaPlaces
namespace Go.Proofs.Ytdabcnjjbfmkaaa
open Go.RowKit
set_option linter.unusedVariables false

theorem ret_bool {a b : Bool} (h : a = b) : Ending.returned (.bool a) = .returned (.bool b) := by rw [h]
def spots (v : Int) : Int := 4 * (tsize (asOld v) + tsize (asNow v))
theorem as_range (v : Int) : 0 ≤ asOld v ∧ asOld v < 256 ∧ 0 ≤ asNow v ∧ asNow v < 256 := by
  unfold asNow asOld
  split <;> split <;> omega
/-- May a table of so many bits grow? -/
def pmay (first budget bits : Int) : Bool := !(tsize first == 0 || tsize bits == 0 || tsize (bits + 1) == 0) && decide (4 * (tsize bits + tsize (bits + 1)) ≤ 8 * max (min budget 65536) (4 * tsize first))
theorem pmay_any (first budget bits : Int) (hb : 0 ≤ bits ∧ bits < 256) (hg : (Lit.int .i64 budget).wf = true) (w : World) : Calls Try.prog 58 #[.int .i64 first, .int .i64 budget, .int .i64 bits] w fun e w' => e = .returned (.bool (pmay first budget bits)) ∧ w' = w := by
  have hs1 := tsize_le first
  have hs2 := tsize_le bits
  have hs3 := tsize_le (bits + 1)
  unfold pmay
  cases e1 : (tsize first == 0)
  · cases e2 : (tsize bits == 0)
    · cases e3 : (tsize (bits + 1) == 0)
      · have hm : -9223372036854775808 ≤ budget := by
          have hmin : IntKind.i64.min = -9223372036854775808 := rfl
          simp only [Lit.wf, Bool.and_eq_true, decide_eq_true_eq] at hg; omega
        go_enter Try.func58, Try.ntmps58
        go_wp2_with (first | (go_at_call 72; refine (size_any _ _).mono ?_; rintro e w' ⟨rfl, rfl⟩))
        all_goals (go_ret; exact ⟨ret_bool (decide_eq_decide.2 (by omega)), rfl⟩)
      · go_enter Try.func58, Try.ntmps58
        go_wp2_with (first | (go_at_call 72; refine (size_any _ _).mono ?_; rintro e w' ⟨rfl, rfl⟩))
        go_ret
        exact ⟨rfl, rfl⟩
    · go_enter Try.func58, Try.ntmps58
      go_wp2_with (first | (go_at_call 72; refine (size_any _ _).mono ?_; rintro e w' ⟨rfl, rfl⟩))
      go_ret
      exact ⟨rfl, rfl⟩
  · go_enter Try.func58, Try.ntmps58
    go_wp2_with (first | (go_at_call 72; refine (size_any _ _).mono ?_; rintro e w' ⟨rfl, rfl⟩))
    go_ret
    exact ⟨rfl, rfl⟩
end Go.Proofs.Ytdabcnjjbfmkaaa
