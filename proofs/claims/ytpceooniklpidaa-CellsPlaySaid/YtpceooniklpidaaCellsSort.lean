/-
  The sort of words, by their addresses: whatever length.
-/
import Derived.Test.YtpceooniklpidaaSortLay
import Derived.Test.YtpceooniklpidaaLib
namespace Go.Proofs.Ytpceooniklpidaa
open Go.RowKit Go.Shelf Go.Lib Go.Sort
set_option linter.unusedVariables false

theorem isnan_any (a : Int) (w : World) : Calls Try.prog 159 #[.int .u64 a] w fun e w' => e = .returned (.bool false) ∧ w' = w := by
  go_enter Try.func159, Try.ntmps159
  go_wp2
  go_ret
  exact ⟨rfl, rfl⟩
theorem cmp_any (a b : Int) (w : World) : Calls Try.prog 138 #[.int .u64 a, .int .u64 b] w fun e w' => e = .returned (.int .i64 (Lib.compareInt a b)) ∧ w' = w := by
  unfold Lib.compareInt
  by_cases h1 : a < b
  · rw [if_pos h1]
    go_enter Try.func138, Try.ntmps138
    go_wp2_with (go_at_call 159; refine (isnan_any _ _).mono ?_; rintro e w1 ⟨rfl, rfl⟩)
    go_ret
    exact ⟨rfl, rfl⟩
  · rw [if_neg h1]
    by_cases h2 : b < a
    · rw [if_pos h2]
      go_enter Try.func138, Try.ntmps138
      go_wp2_with (go_at_call 159; refine (isnan_any _ _).mono ?_; rintro e w1 ⟨rfl, rfl⟩)
      go_ret
      exact ⟨rfl, rfl⟩
    · rw [if_neg h2]
      go_enter Try.func138, Try.ntmps138
      go_wp2_with (go_at_call 159; refine (isnan_any _ _).mono ?_; rintro e w1 ⟨rfl, rfl⟩)
      go_ret
      exact ⟨rfl, rfl⟩
/-- A word's two cells. -/
def encW (x : Int × Int) : List Value := [.int .u64 x.1, .int .u64 x.2]
def cmpW (x y : Int × Int) : Int := Lib.compareInt x.1 y.1
theorem closure_any (x y : Int × Int) (W : World) : Calls Try.prog 137 #[.agg #[.int .u64 x.1, .int .u64 x.2], .agg #[.int .u64 y.1, .int .u64 y.2]] W fun e w' => e = .returned (.int .i64 (cmpW x y)) ∧ ∃ q os', w' = grow (W.drewN q) os' := by
  have hcon := fun W' => cmp_any x.1 y.1 W'
  unfold cmpW
  generalize Lib.compareInt x.1 y.1 = r at hcon ⊢
  go_enter Try.func137, Try.ntmps137
  go_wp2_with (go_at_call 138; refine (hcon _).mono ?_; rintro e w' ⟨rfl, rfl⟩)
  go_ret
  exact ⟨rfl, 0, _, by rw [alloc_eq_grow, alloc_eq_grow, grow_grow]; rfl⟩
theorem cmpLaysW (blk off size : Nat) (w : World) : CmpLays Try.prog 137 #[] encW 2 cmpW blk off size w := fun _ _ _ _ x y => closure_any x y _
theorem ltW (x y : Int × Int) : ltOf cmpW x y = decide (x.1 < y.1) := by
  unfold ltOf cmpW Lib.compareInt
  by_cases h1 : x.1 < y.1
  · simp [h1]
  · by_cases h2 : y.1 < x.1 <;> simp [h1, h2]
theorem swoW : SWO (ltOf cmpW) where
  irrefl x := by rw [ltW]; simp
  trans x y z h1 h2 := by rw [ltW] at *; simp at *; omega
  ntrans x y z h1 h2 := by rw [ltW] at *; simp at *; omega
theorem sort_any (blk off cap : Nat) (d : Array (Int × Int)) (w : World) (hH : HoldsK encW 2 w blk off d) (hblk : blk < w.heap.size) (hsz : d.size < 4611686018427387904) :
    Calls Try.prog 136 #[.slice (some ⟨blk, off, none⟩) d.size cap, .func (.func 137) #[] #[]] w fun e w' => e = .returned (.tuple #[]) ∧ ∃ d' n os, PermIn 0 d.size d d' ∧ SortedIn (ltOf cmpW) 0 d.size d' ∧ w' = sortWorldK encW 2 w blk off n d' os := by
  have eg : ∀ args w, (callFunc 137 args).run Try.prog w = .ok (.enter 137 args) w := fun args w => by kernel_rfl
  exact AnyQ.slices_SortFunc sortW 2 Try.isAgg116 Try.sizeOf116 encW (fun _ => rfl) (fun x v hv => by simp [encW] at hv; rcases hv with rfl | rfl <;> rfl) cmpW swoW 137 #[] blk off cap d w eg (cmpLaysW blk off d.size w) hH hblk hsz
end Go.Proofs.Ytpceooniklpidaa
