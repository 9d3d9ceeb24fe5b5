/-
  No cells: what they tell.
-/
import Derived.Test.YtccbejnonmbgnaaCellsOps
namespace Go.Proofs.Ytccbejnonmbgnaa
open Go.RowKit Go.Maps
set_option linter.unusedVariables false

theorem caccess_nil (k a : Int) (F : Value) (w : World) : Calls Try.prog 82 #[.pointer none, .int .u8 k, .int .u64 a, F] w fun e w' => e = .returned (.int .u64 0) ∧ w' = w := by
  go_enter Try.func82, Try.ntmps82
  go_wp2
  go_ret
  exact ⟨rfl, rfl⟩
theorem cload_nil (a : Int) (w : World) : Calls Try.prog 23 #[.pointer none, .int .u64 a] w fun e w' => e = .returned (.int .u64 0) ∧ Below w.heap.size w w' := by
  go_enter Try.func23, Try.ntmps23
  go_wp2_with (go_at_call 82; refine (caccess_nil _ _ _ _).mono ?_; rintro e w1 ⟨rfl, rfl⟩)
  go_ret
  exact ⟨rfl, Below.refl _ _⟩
theorem cstore_nil (a v : Int) (w : World) : Calls Try.prog 34 #[.pointer none, .int .u64 a, .int .u64 v] w fun e w' => e = .returned (.int .u64 0) ∧ Below w.heap.size w w' := by
  go_enter Try.func34, Try.ntmps34
  go_wp2_with (first | (go_at_call 89; refine (swaps_any _ v).mono ?_; rintro e w1 ⟨rfl, rfl⟩) | (go_at_call 82; refine (caccess_nil _ _ _ _).mono ?_; rintro e w1 ⟨rfl, rfl⟩))
  go_ret
  exact ⟨rfl, (Below.refl _ _).alloc (Nat.le_refl _) _⟩
theorem cswap_nil (a v : Int) (w : World) : Calls Try.prog 68 #[.pointer none, .int .u64 a, .int .u64 v] w fun e w' => e = .returned (.int .u64 0) ∧ Below w.heap.size w w' := by
  go_enter Try.func68, Try.ntmps68
  go_wp2_with (first | (go_at_call 89; refine (swaps_any _ v).mono ?_; rintro e w1 ⟨rfl, rfl⟩) | (go_at_call 82; refine (caccess_nil _ _ _ _).mono ?_; rintro e w1 ⟨rfl, rfl⟩))
  go_ret
  exact ⟨rfl, (Below.refl _ _).alloc (Nat.le_refl _) _⟩
theorem cadd_nil (a v : Int) (w : World) : Calls Try.prog 62 #[.pointer none, .int .u64 a, .int .u64 v] w fun e w' => e = .returned (.int .u64 0) ∧ Below w.heap.size w w' := by
  have hmf : ∀ (fn : Fn) (first cap : Array Value) (w : World), (Instr.makeFunc fn first cap).run Try.prog w = .ok (.func fn first cap) w := fun _ _ _ _ => rfl
  go_enter Try.func62, Try.ntmps62
  go_wp2_with (go_at_call 82; refine (caccess_nil _ _ _ _).mono ?_; rintro e w1 ⟨rfl, rfl⟩)
  go_ret
  exact ⟨rfl, (Below.refl _ _).alloc (Nat.le_refl _) _⟩
theorem ccas_nil (a x y : Int) (w : World) : Calls Try.prog 67 #[.pointer none, .int .u64 a, .int .u64 x, .int .u64 y] w fun e w' => e = .returned (.tuple #[.int .u64 0, .bool false]) ∧ Below w.heap.size w w' := by
  have hmf : ∀ (fn : Fn) (first cap : Array Value) (w : World), (Instr.makeFunc fn first cap).run Try.prog w = .ok (.func fn first cap) w := fun _ _ _ _ => rfl
  obtain ⟨w1, hw0⟩ : ∃ w1, w1 = ((w.alloc (.cells #[.int .u64 x] 23)).alloc (.cells #[.int .u64 y] 23)).alloc (.cells #[.bool false] 4) := ⟨_, rfl⟩
  have hB : Below w.heap.size w w1 := by rw [hw0]; exact (((Below.refl _ _).alloc (Nat.le_refl _) _).alloc (by simp) _).alloc (by simp; omega) _
  have q3 : w1.heap[w.heap.size + 1 + 1]? = some (doneC false) := by
    rw [hw0]
    have := heap_alloc_new ((w.alloc (.cells #[.int .u64 x] 23)).alloc (.cells #[.int .u64 y] 23)) (.cells #[.bool false] 4)
    have e2 : ((w.alloc (.cells #[.int .u64 x] 23)).alloc (.cells #[.int .u64 y] 23)).heap.size = w.heap.size + 1 + 1 := by simp
    rw [e2] at this
    exact this
  have d1 : w1.cell? ⟨w.heap.size + 1 + 1, 0, none⟩ = some (.bool false) := by simp [World.cell?, q3, doneC]
  have d2 : w1.frozen? ⟨w.heap.size + 1 + 1, 0, none⟩ = false := by simp [World.frozen?, q3, doneC]
  have H3 := Lib.hid q3; have HB := Lib.hid hB
  clear q3 hB
  go_enter Try.func67, Try.ntmps67
  go_wp2_with (go_at_call 82; refine (caccess_nil _ _ _ _).mono ?_; rintro e w2 ⟨rfl, rfl⟩)
  rw [← hw0]
  clear hw0
  go_region
  have e1 : (w1.setCell ⟨w.heap.size + 1 + 1, 0, none⟩ (.bool false)).drew.cell? ⟨w.heap.size + 1 + 1, 0, none⟩ = some (.bool false) := by
    have := setCell_same (o := 0) (show w1.heap[w.heap.size + 1 + 1]? = some (.cells #[.bool false] 4 (0, 0)) from H3.out) (.bool false)
    have h2 : (w1.setCell ⟨w.heap.size + 1 + 1, 0, none⟩ (.bool false)).cell? ⟨w.heap.size + 1 + 1, 0, none⟩ = some (.bool false) := by simp [World.cell?, this]
    exact h2
  all_goals (try go_wp2)
  refine bodyPost_ret (v := .tuple #[.int .u64 0, .bool false]) (by simp [results, Try.results67, go_sem, e1]) rfl ⟨rfl, ?_⟩
  exact (Below.setCell HB.out (by simp; omega) _).drew
theorem ccount_nil (w : World) : Calls Try.prog 69 #[.pointer none] w fun e w' => e = .returned (.int .i64 0) ∧ w' = w := by
  go_enter Try.func69, Try.ntmps69
  go_wp2
  go_ret
  exact ⟨rfl, rfl⟩
theorem cpeek_nil (a : Int) (w : World) : Calls Try.prog 41 #[.pointer none, .int .u64 a] w fun e w' => e = .returned (.int .u64 0) ∧ w' = w := by
  go_enter Try.func41, Try.ntmps41
  go_wp2
  go_ret
  exact ⟨rfl, rfl⟩
theorem clast_nil (w : World) : Calls Try.prog 27 #[.pointer none] w fun e w' => e = .returned (accV 0 0 0 0) ∧ Below w.heap.size w w' := by
  go_enter Try.func27, Try.ntmps27
  go_wp2
  refine bodyPost_ret (v := accV 0 0 0 0) (by simp [results, Try.results27, go_sem, accV]) rfl ⟨rfl, ?_⟩
  exact ((Below.refl _ _).alloc (Nat.le_refl _) _)
theorem cwords_nil (w : World) : Calls Try.prog 70 #[.pointer none] w fun e w' => e = .returned (.slice none 0 0) ∧ w' = w := by
  go_enter Try.func70, Try.ntmps70
  go_wp2
  go_ret
  exact ⟨rfl, rfl⟩
end Go.Proofs.Ytccbejnonmbgnaa
