/-
  Words of tables; how many slots there are; may tables grow?
-/
import Derived.Test.YtmakjfeepmiggaaGreatFnv
namespace Go.Proofs.YtmakjfeepmiggaaGreat
open Go.RowKit
set_option linter.unusedVariables false

theorem tsize_zero {b : Int} : tsize b = 0 ↔ b < 1 ∨ 12 < b := by
  unfold tsize
  split
  · simp [*]
  · rename_i h
    have : (2 : Int) ^ b.toNat ≠ 0 := by
      have := Int.pow_pos (n := (2 : Int)) (m := b.toNat) (by omega)
      omega
    simp [this, h]
theorem tsize_le (b : Int) : 0 ≤ tsize b ∧ tsize b ≤ 4096 := by
  by_cases h : 1 ≤ b ∧ b ≤ 12
  · rcases twelve h with rfl | rfl | rfl | rfl | rfl | rfl | rfl | rfl | rfl | rfl | rfl | rfl <;> decide
  · rw [tsize_out (by omega)]; decide

/-- The word of tables. -/
def tword (o n : Int) : Int := o % 256 + 256 * (n % 256)
def asOld (w : Int) : Int := if tsize (w % 256) = 0 then 1 else w % 256
def asNow (w : Int) : Int := if w / 256 % 256 ≠ asOld w + 1 ∨ tsize (w / 256 % 256) = 0 then 0 else w / 256 % 256

theorem word_any (o n : Int) (w : World) : Calls Tryz.prog 125 #[.int .i64 o, .int .i64 n] w fun e w' => e = .returned (.int .u64 (tword o n)) ∧ w' = w := by
  go_enter Tryz.func125, Tryz.ntmps125
  go_wp2
  go_ret
  refine ⟨ret_u64 ?_, rfl⟩
  simp only [tword]

theorem as_any (v : Int) (hv : (Lit.int .u64 v).wf = true) (w : World) : Calls Tryz.prog 147 #[.int .u64 v] w fun e w' => e = .returned (.tuple #[.int .i64 (asOld v), .int .i64 (asNow v)]) ∧ w' = w := by
  have h0 : 0 ≤ v := by
    have hmin : IntKind.u64.min = 0 := rfl
    simp only [Lit.wf, Bool.and_eq_true, decide_eq_true_eq] at hv; omega
  have e1 : v.tmod 256 = v % 256 := Int.tmod_eq_emod_of_nonneg h0
  have hx : v ≤ 18446744073709551615 := by
    have hmax : IntKind.u64.max = 18446744073709551615 := rfl
    simp only [Lit.wf, Bool.and_eq_true, decide_eq_true_eq] at hv; omega
  have e2 : (IntKind.u64.wrap (v.tdiv 256)).tmod 256 = v / 256 % 256 := by
    rw [Int.tdiv_eq_ediv_of_nonneg h0, IntKind.wrap_u64, Int.tmod_eq_emod_of_nonneg (by omega)]; omega
  clear hx
  unfold asOld asNow asOld
  obtain ⟨o, ho⟩ : ∃ o, o = v % 256 := ⟨_, rfl⟩
  obtain ⟨n, hn⟩ : ∃ n, n = v / 256 % 256 := ⟨_, rfl⟩
  rw [← ho] at e1
  rw [← hn] at e2
  rw [← ho, ← hn]
  have b1 : 0 ≤ o ∧ o < 256 := by omega
  have b2 : 0 ≤ n ∧ n < 256 := by omega
  clear ho hn hv h0
  have key : ∀ (o' : Int) (c : Bool), c = (tsize o == 0) → o' = (if c = true then 1 else o) → 0 ≤ o' → o' < 256 → Calls Tryz.prog 147 #[.int .u64 v] w fun e w' => e = .returned (.tuple #[.int .i64 o', .int .i64 (if n ≠ o' + 1 ∨ tsize n = 0 then 0 else n)]) ∧ w' = w := by
    intro o' c hc ho' q0 q1
    cases c
    · simp only [Bool.false_eq_true, if_false] at ho'
      rw [ho'] at q0 q1 ⊢
      clear ho'
      have d1 : (tsize o == 0) = false := hc.symm
      clear hc
      cases d2 : (n == o + 1)
      · rw [if_pos (.inl (by simpa using d2))]
        have d2' : (n != o + 1) = true := by simpa using d2
        go_enter Tryz.func147, Tryz.ntmps147
        go_wp2_with (go_at_call 49; refine (size_any _ _).mono ?_; rintro e w' ⟨rfl, rfl⟩)
        go_ret2
        exact ⟨rfl, rfl⟩
      · have hn : n = o + 1 := by simpa using d2
        have d2' : (n != o + 1) = false := by simp [hn]
        cases d3 : (tsize n == 0)
        · rw [if_neg (by rintro (c | c); exact c hn; simp [c] at d3)]
          clear hn
          go_enter Tryz.func147, Tryz.ntmps147
          go_wp2_with (go_at_call 49; refine (size_any _ _).mono ?_; rintro e w' ⟨rfl, rfl⟩)
          go_ret2
          exact ⟨rfl, rfl⟩
        · rw [if_pos (.inr (by simpa using d3))]
          clear hn
          go_enter Tryz.func147, Tryz.ntmps147
          go_wp2_with (go_at_call 49; refine (size_any _ _).mono ?_; rintro e w' ⟨rfl, rfl⟩)
          go_ret2
          exact ⟨rfl, rfl⟩
    · simp only [if_true] at ho'
      subst ho'
      have d1 : (tsize o == 0) = true := hc.symm
      clear hc
      cases d2 : (n == 2)
      · rw [if_pos (.inl (by simpa using d2))]
        have d2' : (n != 2) = true := by simpa using d2
        go_enter Tryz.func147, Tryz.ntmps147
        go_wp2_with (go_at_call 49; refine (size_any _ _).mono ?_; rintro e w' ⟨rfl, rfl⟩)
        go_ret2
        exact ⟨rfl, rfl⟩
      · have hn : n = 2 := by simpa using d2
        rw [hn] at e2 ⊢
        have d3 : (tsize 2 == 0) = false := by decide
        rw [if_neg (by decide)]
        clear hn d2 b2 n
        go_enter Tryz.func147, Tryz.ntmps147
        go_wp2_with (go_at_call 49; refine (size_any _ _).mono ?_; rintro e w' ⟨rfl, rfl⟩)
        go_ret2
        exact ⟨rfl, rfl⟩
  have hk := key (if tsize o = 0 then 1 else o) (tsize o == 0) rfl (by simp) (by split <;> omega) (by split <;> omega)
  exact hk
end Go.Proofs.YtmakjfeepmiggaaGreat
