/-
  A world: its cells and its config; Full, Grows, Steps.
-/
import Derived.Test.YtmakjfeepmiggaaGreatWorldNew
namespace Go.Proofs.YtmakjfeepmiggaaGreat
open Go.RowKit Go.Maps
set_option linter.unusedVariables false

/-- A world that was made since w0: its cells, its config; whatever else it has. -/
structure Wld (w0 w : World) (wb cb : Nat) (c : Conf) (s : CS) : Prop where
  own : Own w0 w cb s
  blk : ∃ ib nb tk h, w.heap[wb]? = some (.cells (worldV cb ib nb c tk h).toArray 117 (0, 0))
theorem Wld.keep {w0 w w1 : World} {wb cb : Nat} {c : Conf} {s : CS} (h : Wld w0 w wb cb c s) (h2 : Below w.heap.size w w1) : Wld w0 w1 wb cb c s := by
  obtain ⟨ib, nb, tk, hh, hb⟩ := h.blk
  exact ⟨h.own.keep h2, ib, nb, tk, hh, below_rest h2 _ _ _ _ hb rfl rfl⟩
theorem Wld.acc {w0 w w1 : World} {wb cb : Nat} {c : Conf} {s s' : CS} (h : Wld w0 w wb cb c s) (h1 : Own w0 w1 cb s') (h2 : Rest w w1) : Wld w0 w1 wb cb c s' := by
  obtain ⟨ib, nb, tk, hh, hb⟩ := h.blk
  exact ⟨h1, ib, nb, tk, hh, h2 _ _ _ _ hb rfl rfl⟩
theorem Wld.cell {w0 w : World} {wb cb : Nat} {c : Conf} {s : CS} (h : Wld w0 w wb cb c s) : w.cell? ⟨wb, 0, none⟩ = some (.pointer (some ⟨cb, 0, none⟩)) ∧ w.cell? ⟨wb, 3, none⟩ = some (.int .i64 c.bits) ∧ w.cell? ⟨wb, 4, none⟩ = some (.int .i64 c.budget) := by
  obtain ⟨ib, nb, tk, hh, hb⟩ := h.blk
  have k : ∀ o, w.cell? ⟨wb, o, none⟩ = (worldV cb ib nb c tk hh).toArray[o]? := fun o => by unfold World.cell?; simp only; rw [hb]; rfl
  rw [k, k, k]
  simp [worldV, Conf.cells]

theorem steps_any {w0 w : World} {wb cb : Nat} {c : Conf} {s : CS} (h : Wld w0 w wb cb c s) : Calls Tryz.prog 67 #[.pointer (some ⟨wb, 0, none⟩)] w fun e w' => e = .returned (.int .i64 s.cnt) ∧ w' = w := by
  obtain ⟨c0, -, -⟩ := h.cell
  have hk := count_own h.own
  clear h
  go_enter Tryz.func67, Tryz.ntmps67
  go_wp2_with (go_at_call 139; refine hk.mono ?_; rintro e w' ⟨rfl, rfl⟩)
  go_ret
  exact ⟨rfl, rfl⟩
end Go.Proofs.YtmakjfeepmiggaaGreat
