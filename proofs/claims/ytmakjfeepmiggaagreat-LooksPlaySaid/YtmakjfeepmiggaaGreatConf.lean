/-
  Configs of worlds.
-/
import Derived.Test.YtmakjfeepmiggaaGreatPlacesMay
namespace Go.Proofs.YtmakjfeepmiggaaGreat
open Go.RowKit
set_option linter.unusedVariables false

structure Conf where
  bits : Int
  budget : Int
  tries : Int
  quantum : Int
  way : Int
def Conf.cells (c : Conf) : List Value := [.int .i64 c.bits, .int .i64 c.budget, .int .i64 c.tries, .int .i64 c.quantum, .int .i64 c.way]
def Conf.ok (c : Conf) : Bool := decide (1 ≤ c.bits ∧ c.bits ≤ 12) && decide (1 ≤ c.budget ∧ c.budget ≤ 65536) && decide (0 ≤ c.tries ∧ c.tries ≤ 16) && decide (1 ≤ c.quantum ∧ c.quantum ≤ 8) && decide (2 ≤ c.way ∧ c.way ≤ 256)
def Conf.wf (c : Conf) : Prop := (Lit.int .i64 c.bits).wf = true ∧ (Lit.int .i64 c.budget).wf = true ∧ (Lit.int .i64 c.tries).wf = true ∧ (Lit.int .i64 c.quantum).wf = true ∧ (Lit.int .i64 c.way).wf = true

theorem conf_false {b : Bool} (h : b = false) : Ending.returned (.bool false) = .returned (.bool b) := by rw [h]
theorem conf_true {b : Bool} (h : b = true) : Ending.returned (.bool true) = .returned (.bool b) := by rw [h]
set_option maxRecDepth 10000 in
set_option maxHeartbeats 4000000 in
theorem wmay_any (c : Conf) (w : World) : Calls Tryz.prog 124 #[.agg #[.int .i64 c.bits, .int .i64 c.budget, .int .i64 c.tries, .int .i64 c.quantum, .int .i64 c.way]] w fun e w' => e = .returned (.bool c.ok) ∧ Below w.heap.size w w' := by
  have i0 : ∀ w, (Instr.index 283 (.agg #[.int .i64 c.bits, .int .i64 1, .int .i64 12, .int .i64 c.budget, .int .i64 1, .int .i64 65536, .int .i64 c.tries, .int .i64 0, .int .i64 16, .int .i64 c.quantum, .int .i64 1, .int .i64 8, .int .i64 c.way, .int .i64 2, .int .i64 256]) (.int .i64 0)).run Tryz.prog w = .ok (.agg #[.int .i64 c.bits, .int .i64 1, .int .i64 12]) w := fun _ => by kernel_rfl
  have i1 : ∀ w, (Instr.index 283 (.agg #[.int .i64 c.bits, .int .i64 1, .int .i64 12, .int .i64 c.budget, .int .i64 1, .int .i64 65536, .int .i64 c.tries, .int .i64 0, .int .i64 16, .int .i64 c.quantum, .int .i64 1, .int .i64 8, .int .i64 c.way, .int .i64 2, .int .i64 256]) (.int .i64 1)).run Tryz.prog w = .ok (.agg #[.int .i64 c.budget, .int .i64 1, .int .i64 65536]) w := fun _ => by kernel_rfl
  have i2 : ∀ w, (Instr.index 283 (.agg #[.int .i64 c.bits, .int .i64 1, .int .i64 12, .int .i64 c.budget, .int .i64 1, .int .i64 65536, .int .i64 c.tries, .int .i64 0, .int .i64 16, .int .i64 c.quantum, .int .i64 1, .int .i64 8, .int .i64 c.way, .int .i64 2, .int .i64 256]) (.int .i64 2)).run Tryz.prog w = .ok (.agg #[.int .i64 c.tries, .int .i64 0, .int .i64 16]) w := fun _ => by kernel_rfl
  have i3 : ∀ w, (Instr.index 283 (.agg #[.int .i64 c.bits, .int .i64 1, .int .i64 12, .int .i64 c.budget, .int .i64 1, .int .i64 65536, .int .i64 c.tries, .int .i64 0, .int .i64 16, .int .i64 c.quantum, .int .i64 1, .int .i64 8, .int .i64 c.way, .int .i64 2, .int .i64 256]) (.int .i64 3)).run Tryz.prog w = .ok (.agg #[.int .i64 c.quantum, .int .i64 1, .int .i64 8]) w := fun _ => by kernel_rfl
  have i4 : ∀ w, (Instr.index 283 (.agg #[.int .i64 c.bits, .int .i64 1, .int .i64 12, .int .i64 c.budget, .int .i64 1, .int .i64 65536, .int .i64 c.tries, .int .i64 0, .int .i64 16, .int .i64 c.quantum, .int .i64 1, .int .i64 8, .int .i64 c.way, .int .i64 2, .int .i64 256]) (.int .i64 4)).run Tryz.prog w = .ok (.agg #[.int .i64 c.way, .int .i64 2, .int .i64 256]) w := fun _ => by kernel_rfl
  go_enter Tryz.func124, Tryz.ntmps124
  go_wp2
  refine wp_loop_rounds 6 ?_
  iterate 6 (all_goals (first | (rw [rounds_succ]; go_wp2) | (go_ret; refine ⟨conf_false (by simp only [Conf.ok, Bool.and_eq_false_iff, decide_eq_false_iff_not]; omega), ?_⟩; repeat (first | exact Below.refl _ _ | refine Below.alloc ?_ (by simp <;> omega) _))))
  all_goals (first | (go_ret; refine ⟨conf_false (by simp only [Conf.ok, Bool.and_eq_false_iff, decide_eq_false_iff_not]; omega), ?_⟩; repeat (first | exact Below.refl _ _ | refine Below.alloc ?_ (by simp <;> omega) _)) | (go_ret; refine ⟨conf_true (by simp only [Conf.ok, Bool.and_eq_true, decide_eq_true_eq]; omega), ?_⟩; repeat (first | exact Below.refl _ _ | refine Below.alloc ?_ (by simp <;> omega) _)))
end Go.Proofs.YtmakjfeepmiggaaGreat
