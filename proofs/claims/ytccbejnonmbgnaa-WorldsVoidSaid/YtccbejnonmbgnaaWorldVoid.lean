/-
  No world; and one that no call made.
-/
import Derived.Test.YtccbejnonmbgnaaWorldLives
import Derived.Test.YtccbejnonmbgnaaCellsNil
namespace Go.Proofs.Ytccbejnonmbgnaa
open Go.RowKit Go.Maps
set_option linter.unusedVariables false

theorem notes_none (w : World) : Calls Try.prog 94 #[.pointer none] w fun e w' => e = .returned (.slice none 0 0) ∧ w' = w := by
  go_enter Try.func94, Try.ntmps94
  go_wp2
  go_ret
  exact ⟨rfl, rfl⟩
theorem ncount_nil (w : World) : Calls Try.prog 45 #[.pointer none] w fun e w' => e = .returned (.int .i64 0) ∧ w' = w := by
  go_enter Try.func45, Try.ntmps45
  go_wp2_with (go_at_call 94; refine (notes_none _).mono ?_; rintro e w1 ⟨rfl, rfl⟩)
  go_ret
  exact ⟨rfl, rfl⟩
theorem nadd_nil (a0 a1 a2 a3 a4 a5 a6 a7 : Value) (w : World) : Calls Try.prog 93 #[.pointer none, .agg #[a0, a1, a2, a3, a4, a5, a6, a7]] w fun e w' => e = .returned (.int .i64 2) ∧ Below w.heap.size w w' := by
  go_enter Try.func93, Try.ntmps93
  go_wp2_with (go_at_call 45; refine (ncount_nil _).mono ?_; rintro e w1 ⟨rfl, rfl⟩)
  go_ret
  exact ⟨rfl, (Below.refl _ _).alloc (Nat.le_refl _) _⟩
theorem tick_nil (w : World) : Calls Try.prog 42 #[.pointer none] w fun e w' => e = .returned (.tuple #[]) ∧ w' = w := by
  go_enter Try.func42, Try.ntmps42
  go_wp2
  go_end0
  exact ⟨rfl, rfl⟩
theorem steps_nil (w : World) : Calls Try.prog 44 #[.pointer none] w fun e w' => e = .returned (.int .i64 0) ∧ w' = w := by
  go_enter Try.func44, Try.ntmps44
  go_wp2
  go_ret
  exact ⟨rfl, rfl⟩
theorem grows_nil (w : World) : Calls Try.prog 33 #[.pointer none] w fun e w' => e = .returned (.bool false) ∧ w' = w := by
  go_enter Try.func33, Try.ntmps33
  go_wp2
  go_ret
  exact ⟨rfl, rfl⟩
theorem full_nil (w : World) : Calls Try.prog 35 #[.pointer none] w fun e w' => e = .returned (.bool false) ∧ w' = w := by
  go_enter Try.func35, Try.ntmps35
  go_wp2
  go_ret
  exact ⟨rfl, rfl⟩
theorem note_nil (k r b u s v : Int) (w : World) : Calls Try.prog 43 #[.pointer none, .int .u8 k, .int .i64 r, .agg #[.int .i64 b, .int .i64 u, .int .i64 s], .int .i64 v] w fun e w' => e = .returned (.tuple #[]) ∧ Below w.heap.size w w' := by
  go_enter Try.func43, Try.ntmps43
  go_wp2
  go_end0
  exact ⟨rfl, (Below.refl _ _).alloc (Nat.le_refl _) _⟩

/-- A world that no call made. -/
structure VoidW (w : World) (wb : Nat) : Prop where
  c0 : w.cell? ⟨wb, 0, none⟩ = some (.pointer none)
  c2 : w.cell? ⟨wb, 2, none⟩ = some (.pointer none)
  c3 : w.cell? ⟨wb, 3, none⟩ = some (.int .i64 0)
  c4 : w.cell? ⟨wb, 4, none⟩ = some (.int .i64 0)
  c72 : w.cell? ⟨wb, 72, none⟩ = some (.int .i64 0)
theorem VoidW.keep {w w' : World} {wb : Nat} (h : VoidW w wb) (hb : Below w.heap.size w w') : VoidW w' wb := by
  have k : ∀ o v, w.cell? ⟨wb, o, none⟩ = some v → w'.cell? ⟨wb, o, none⟩ = some v := fun o v hc => (hb.cell (World.block_lt_of_cell? _ _ hc)).trans hc
  exact ⟨k _ _ h.c0, k _ _ h.c2, k _ _ h.c3, k _ _ h.c4, k _ _ h.c72⟩
theorem steps_void {w : World} {wb : Nat} (h : VoidW w wb) : Calls Try.prog 44 #[.pointer (some ⟨wb, 0, none⟩)] w fun e w' => e = .returned (.int .i64 0) ∧ w' = w := by
  have c0 := h.c0
  clear h
  go_enter Try.func44, Try.ntmps44
  go_wp2_with (go_at_call 69; refine (ccount_nil _).mono ?_; rintro e w1 ⟨rfl, rfl⟩)
  go_ret
  exact ⟨rfl, rfl⟩
theorem tick_void {w : World} {wb : Nat} (h : VoidW w wb) : Calls Try.prog 42 #[.pointer (some ⟨wb, 0, none⟩)] w fun e w' => e = .returned (.tuple #[]) ∧ Below w.heap.size w w' := by
  have c0 := h.c0
  have x0 := fun st : ExtW w => st.cell c0
  clear h
  go_enter Try.func42, Try.ntmps42
  go_wp2_with (go_at_call 41; refine (cpeek_nil _ _).mono ?_; rintro e w1 ⟨rfl, rfl⟩)
  refine wp_region_ext (by kernel_rfl) (by kernel_rfl) ?_
  repeat (go_big_quiet_step (first | (go_at_call 92; with_reducible refine calls_ext (etick_any 0 (by decide) _)) | (go_at_call 67; with_reducible refine calls_ext (ccas_nil _ _ _ _))))
  refine wpQuiet_nil ?_
  rintro W ⟨⟨W2, hW⟩, rfl⟩
  clear x0
  go_wp2
  go_end0
  exact ⟨rfl, hW⟩
theorem full_void {w : World} {wb : Nat} (h : VoidW w wb) : Calls Try.prog 35 #[.pointer (some ⟨wb, 0, none⟩)] w fun e w' => e = .returned (.bool true) ∧ Below w.heap.size w w' := by
  have hmf : ∀ (fn : Fn) (first cap : Array Value) (w : World), (Instr.makeFunc fn first cap).run Try.prog w = .ok (.func fn first cap) w := fun _ _ _ _ => rfl
  have c0 := h.c0
  have c4 := h.c4
  have x4 := fun st : ExtW w => st.cell c4
  have hk : ∀ st : ExtW w, Calls Try.prog 41 #[.pointer none, .int .u64 6] st.val fun e w' => e = .returned (.int .u64 0) ∧ st.val = w' := fun st => (cpeek_nil 6 st.val).mono fun e w' ⟨he, hw⟩ => ⟨he, hw.symm⟩
  clear h
  go_enter Try.func35, Try.ntmps35
  go_wp2_with fail
  refine wp_region_ext (by kernel_rfl) (by kernel_rfl) ?_
  repeat (go_big_quiet_step ((go_at_call 41; with_reducible refine calls_ext_same (hk _))))
  refine wpQuiet_nil ?_
  rintro W ⟨⟨W2, hW⟩, rfl⟩
  clear x4 hk
  go_wp2
  go_ret
  exact ⟨rfl, hW⟩
theorem grows_void {w : World} {wb : Nat} (h : VoidW w wb) : Calls Try.prog 33 #[.pointer (some ⟨wb, 0, none⟩)] w fun e w' => e = .returned (.bool false) ∧ Below w.heap.size w w' := by
  have hmf : ∀ (fn : Fn) (first cap : Array Value) (w : World), (Instr.makeFunc fn first cap).run Try.prog w = .ok (.func fn first cap) w := fun _ _ _ _ => rfl
  have c0 := h.c0
  have c3 := h.c3
  have c4 := h.c4
  have x3 := fun st : ExtW w => st.cell c3
  have x4 := fun st : ExtW w => st.cell c4
  have ha := as_any 0 (by decide) w
  have e1 : asNow 0 = 0 := by decide
  have e2 : asOld 0 = 1 := by decide
  have e3 : pmay 0 0 1 = false := by decide
  rw [e1, e2] at ha
  have hm := fun st : ExtW w => pmay_ext 0 0 1 (by omega) (by decide) st
  rw [e3] at hm
  clear h e1 e2 e3
  go_enter Try.func33, Try.ntmps33
  go_wp2_with (first | (go_at_call 41; refine (cpeek_nil _ _).mono ?_; rintro e w' ⟨rfl, rfl⟩) | (go_at_call 87; refine ha.mono ?_; rintro e w' ⟨rfl, rfl⟩))
  refine wp_region_ext (by kernel_rfl) (by kernel_rfl) ?_
  repeat (go_big_quiet_step ((go_at_call 88; with_reducible refine calls_ext_same (hm _))))
  refine wpQuiet_nil ?_
  rintro W ⟨⟨W2, hW⟩, rfl⟩
  clear x3 x4 hm
  go_wp2
  go_ret
  exact ⟨rfl, hW⟩
theorem note_void {w : World} {wb : Nat} (h : VoidW w wb) (k r b u s v : Int) : Calls Try.prog 43 #[.pointer (some ⟨wb, 0, none⟩), .int .u8 k, .int .i64 r, .agg #[.int .i64 b, .int .i64 u, .int .i64 s], .int .i64 v] w fun e w' => e = .returned (.tuple #[]) ∧ Below w.heap.size w w' := by
  obtain ⟨w1, hw1⟩ : ∃ w1, w1 = w.alloc (.cells #[.int .i64 b, .int .i64 u, .int .i64 s] 81) := ⟨_, rfl⟩
  have hB : Below w.heap.size w w1 := by rw [hw1]; exact (Below.refl _ _).alloc (Nat.le_refl _) _
  have h1 := h.keep hB
  have hq : w1.heap[w.heap.size]? = some (.cells #[.int .i64 b, .int .i64 u, .int .i64 s] 81 (0, 0)) := by rw [hw1]; exact heap_alloc_new w _
  have y : ∀ o, w1.cell? ⟨w.heap.size, o, none⟩ = (#[.int .i64 b, .int .i64 u, .int .i64 s] : Array Value)[o]? := fun o => by unfold World.cell?; simp only; rw [hq]; rfl
  have y0 := fun st : ExtW w1 => st.cell (y 0)
  have y1 := fun st : ExtW w1 => st.cell (y 1)
  have y2 := fun st : ExtW w1 => st.cell (y 2)
  have z0 := fun st : ExtW w1 => st.cell h1.c2
  have z1 := fun st : ExtW w1 => st.cell h1.c72
  have hs : ∀ st : ExtW w1, Calls Try.prog 44 #[.pointer (some ⟨wb, 0, none⟩)] st.val fun e w' => e = .returned (.int .i64 0) ∧ st.val = w' := fun st => (steps_void (h1.keep st.below)).mono fun e w' ⟨he, hw⟩ => ⟨he, hw.symm⟩
  have HB := Lib.hid hB
  clear h hq y h1 hB
  go_enter Try.func43, Try.ntmps43
  go_wp2
  rw [← hw1]
  refine wp_region_ext (by kernel_rfl) (by kernel_rfl) ?_
  repeat (go_big_quiet_step (first | (go_at_call 44; with_reducible refine calls_ext_same (hs _)) | (go_at_call 93; with_reducible refine calls_ext (nadd_nil _ _ _ _ _ _ _ _ _))))
  refine wpQuiet_nil ?_
  rintro W ⟨⟨W2, hW⟩, rfl⟩
  clear y0 y1 y2 z0 z1 hs
  go_wp2
  go_end0
  exact ⟨rfl, HB.out.trans (hW.mono HB.out.size)⟩

theorem void_new (w : World) : VoidW (w.alloc (.cells Try.zeroCells46 46)) w.heap.size := by
  have hq := heap_alloc_new w (.cells Try.zeroCells46 46)
  have k : ∀ o, (w.alloc (.cells Try.zeroCells46 46)).cell? ⟨w.heap.size, o, none⟩ = Try.zeroCells46[o]? := fun o => by unfold World.cell?; simp only; rw [hq]; rfl
  exact ⟨(k 0).trans (by kernel_rfl), (k 2).trans (by kernel_rfl), (k 3).trans (by kernel_rfl), (k 4).trans (by kernel_rfl), (k 72).trans (by kernel_rfl)⟩
end Go.Proofs.Ytccbejnonmbgnaa
