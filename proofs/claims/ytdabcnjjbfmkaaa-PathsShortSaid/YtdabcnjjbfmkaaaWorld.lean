/-
  A world: its cells and its config; Full, Grows, Steps.
-/
import Derived.Test.YtdabcnjjbfmkaaaWorldNew
namespace Go.Proofs.Ytdabcnjjbfmkaaa
open Go.RowKit Go.Maps
set_option linter.unusedVariables false

/-- A world that was made since w0: its cells, its config; whatever else it has. -/
structure Wld (w0 w : World) (wb cb : Nat) (c : Conf) (s : CS) : Prop where
  own : Own w0 w cb s
  blk : ∃ ib nb tk h, w.heap[wb]? = some (.cells (worldV cb ib nb c tk h).toArray 42 (0, 0))
theorem Wld.keep {w0 w w1 : World} {wb cb : Nat} {c : Conf} {s : CS} (h : Wld w0 w wb cb c s) (h2 : Below w.heap.size w w1) : Wld w0 w1 wb cb c s := by
  obtain ⟨ib, nb, tk, hh, hb⟩ := h.blk
  exact ⟨h.own.keep h2, ib, nb, tk, hh, below_rest h2 _ _ _ _ hb rfl rfl⟩
theorem Wld.acc {w0 w w1 : World} {wb cb : Nat} {c : Conf} {s s' : CS} (h : Wld w0 w wb cb c s) (h1 : Own w0 w1 cb s') (h2 : Rest w w1) : Wld w0 w1 wb cb c s' := by
  obtain ⟨ib, nb, tk, hh, hb⟩ := h.blk
  exact ⟨h1, ib, nb, tk, hh, h2 _ _ _ _ hb rfl rfl⟩
theorem Wld.cell {w0 w : World} {wb cb : Nat} {c : Conf} {s : CS} (h : Wld w0 w wb cb c s) : w.cell? ⟨wb, 0, none⟩ = some (.pointer (some ⟨cb, 0, none⟩)) ∧ w.cell? ⟨wb, 3, none⟩ = some (.int .i64 c.bits) ∧ w.cell? ⟨wb, 4, none⟩ = some (.int .i64 c.budget) := by
  obtain ⟨ib, nb, tk, hh, hb⟩ := h.blk
  have k : ∀ o, w.cell? ⟨wb, o, none⟩ = (worldV cb ib nb c tk hh).toArray[o]? := fun o => by unfold World.cell?; simp only; rw [hb]; rfl
  rw [k, k, k]
  simp [worldV, Conf.cells]

theorem steps_any {w0 w : World} {wb cb : Nat} {c : Conf} {s : CS} (h : Wld w0 w wb cb c s) : Calls Try.prog 10 #[.pointer (some ⟨wb, 0, none⟩)] w fun e w' => e = .returned (.int .i64 s.cnt) ∧ w' = w := by
  obtain ⟨c0, -, -⟩ := h.cell
  have hk := count_own h.own
  clear h
  go_enter Try.func10, Try.ntmps10
  go_wp2_with (go_at_call 48; refine hk.mono ?_; rintro e w' ⟨rfl, rfl⟩)
  go_ret
  exact ⟨rfl, rfl⟩
theorem full_any {w0 w : World} {wb cb : Nat} {c : Conf} {s : CS} (h : Wld w0 w wb cb c s) (hb : 1 ≤ c.budget ∧ c.budget ≤ 65536) : Calls Try.prog 18 #[.pointer (some ⟨wb, 0, none⟩)] w fun e w' => e = .returned (.bool (decide (c.budget ≤ s.val 6))) ∧ Below w.heap.size w w' := by
  have hmf : ∀ (fn : Fn) (first cap : Array Value) (w : World), (Instr.makeFunc fn first cap).run Try.prog w = .ok (.func fn first cap) w := fun _ _ _ _ => rfl
  have hbw : IntKind.u64.wrap c.budget = c.budget := by rw [IntKind.wrap_u64]; omega
  have hb0 : ¬ c.budget < 0 := by omega
  obtain ⟨c0, c3, c4⟩ := h.cell
  have x4 := fun st : ExtW w => st.cell c4
  have hk : ∀ st : ExtW w, Calls Try.prog 19 #[.pointer (some ⟨cb, 0, none⟩), .int .u64 6] st.val fun e w' => e = .returned (.int .u64 (s.val 6)) ∧ st.val = w' := fun st => (peek_own (h.own.keep st.below) 6 (by decide)).mono fun e w' ⟨he, hw⟩ => ⟨he, hw.symm⟩
  clear h
  go_enter Try.func18, Try.ntmps18
  go_wp2_with fail
  refine wp_region_ext (by kernel_rfl) (by kernel_rfl) ?_
  repeat (go_big_quiet_step ((go_at_call 19; with_reducible refine calls_ext_same (hk _))))
  refine wpQuiet_nil ?_
  rintro W ⟨⟨W2, hW⟩, rfl⟩
  clear x4 hk
  go_wp2
  go_ret
  exact ⟨rfl, hW⟩

theorem pmay_ext (a b d : Int) (hd : 0 ≤ d ∧ d < 256) (hg : (Lit.int .i64 b).wf = true) {w : World} (st : ExtW w) : Calls Try.prog 58 #[.int .i64 a, .int .i64 b, .int .i64 d] st.val fun e w' => e = .returned (.bool (pmay a b d)) ∧ st.val = w' :=
  (pmay_any a b d hd hg st.val).mono fun e w' ⟨he, hw⟩ => ⟨he, hw.symm⟩
theorem grows_any {w0 w : World} {wb cb : Nat} {c : Conf} {s : CS} (h : Wld w0 w wb cb c s) (hg : (Lit.int .i64 c.budget).wf = true) : Calls Try.prog 17 #[.pointer (some ⟨wb, 0, none⟩)] w fun e w' => e = .returned (.bool (asNow (s.val 2) == 0 && pmay c.bits c.budget (asOld (s.val 2)))) ∧ Below w.heap.size w w' := by
  have hmf : ∀ (fn : Fn) (first cap : Array Value) (w : World), (Instr.makeFunc fn first cap).run Try.prog w = .ok (.func fn first cap) w := fun _ _ _ _ => rfl
  obtain ⟨c0, c3, c4⟩ := h.cell
  have x3 := fun st : ExtW w => st.cell c3
  have x4 := fun st : ExtW w => st.cell c4
  have hk := peek_own h.own 2 (by decide)
  have ha := as_any (s.val 2) (h.own.wf 2) w
  have hr := as_range (s.val 2)
  generalize asNow (s.val 2) = n at *
  generalize asOld (s.val 2) = o at *
  have hm := fun st : ExtW w => pmay_ext c.bits c.budget o ⟨hr.1, hr.2.1⟩ hg st
  clear h hg hr
  cases hn : (n == 0)
  · go_enter Try.func17, Try.ntmps17
    go_wp2_with (first | (go_at_call 19; refine hk.mono ?_; rintro e w' ⟨rfl, rfl⟩) | (go_at_call 57; refine ha.mono ?_; rintro e w' ⟨rfl, rfl⟩))
    refine wp_region_ext (by kernel_rfl) (by kernel_rfl) ?_
    repeat (go_big_quiet_step ((go_at_call 58; with_reducible refine calls_ext_same (hm _))))
    refine wpQuiet_nil ?_
    rintro W ⟨⟨W2, hW⟩, rfl⟩
    clear x3 x4 hm
    go_wp2
    go_ret
    exact ⟨rfl, hW⟩
  · go_enter Try.func17, Try.ntmps17
    go_wp2_with (first | (go_at_call 19; refine hk.mono ?_; rintro e w' ⟨rfl, rfl⟩) | (go_at_call 57; refine ha.mono ?_; rintro e w' ⟨rfl, rfl⟩))
    refine wp_region_ext (by kernel_rfl) (by kernel_rfl) ?_
    repeat (go_big_quiet_step ((go_at_call 58; with_reducible refine calls_ext_same (hm _))))
    refine wpQuiet_nil ?_
    rintro W ⟨⟨W2, hW⟩, rfl⟩
    clear x3 x4 hm
    go_wp2
    go_ret
    exact ⟨rfl, hW⟩
end Go.Proofs.Ytdabcnjjbfmkaaa
