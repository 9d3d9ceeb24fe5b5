/-
  Sizes of tables, stripes.
-/
import Derived.Test.YtmakjfeepmiggaaGreatLib
namespace Go.Proofs.YtmakjfeepmiggaaGreat
open Go.RowKit
set_option linter.unusedVariables false

/-- How many buckets a table of so many bits has. -/
def tsize (b : Int) : Int := if b < 1 ∨ 12 < b then 0 else 2 ^ b.toNat
theorem tsize_out {b : Int} (h : b < 1 ∨ 12 < b) : tsize b = 0 := by simp [tsize, h]
theorem tsize_in {b : Int} (h : 1 ≤ b ∧ b ≤ 12) : tsize b = 2 ^ b.toNat := by unfold tsize; rw [if_neg (by omega)]
theorem twelve {b : Int} (h : 1 ≤ b ∧ b ≤ 12) : b = 1 ∨ b = 2 ∨ b = 3 ∨ b = 4 ∨ b = 5 ∨ b = 6 ∨ b = 7 ∨ b = 8 ∨ b = 9 ∨ b = 10 ∨ b = 11 ∨ b = 12 := by omega

theorem size_any (b : Int) (w : World) : Calls Tryz.prog 49 #[.int .i64 b] w fun e w' => e = .returned (.int .i64 (tsize b)) ∧ w' = w := by
  by_cases h1 : b < 1
  · rw [tsize_out (.inl h1)]
    go_enter Tryz.func49, Tryz.ntmps49
    go_wp2
    all_goals (go_ret; exact ⟨rfl, rfl⟩)
  by_cases h2 : 12 < b
  · rw [tsize_out (.inr h2)]
    go_enter Tryz.func49, Tryz.ntmps49
    go_wp2
    all_goals (go_ret; exact ⟨rfl, rfl⟩)
  · have h3 := twelve (b := b) ⟨by omega, by omega⟩
    clear h1 h2
    rcases h3 with rfl | rfl | rfl | rfl | rfl | rfl | rfl | rfl | rfl | rfl | rfl | rfl
    all_goals (go_enter Tryz.func49, Tryz.ntmps49; go_wp2; go_ret; exact ⟨rfl, rfl⟩)
end Go.Proofs.YtmakjfeepmiggaaGreat
