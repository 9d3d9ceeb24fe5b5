/-
  The walks of nestboxref02: the part that stands without package tagwords: a tag; a word with a tag.
-/
import Derived.Test.YtdabcnjjbfmkaaaTagPure
import Derived.Test.YtdabcnjjbfmkaaaLib
namespace Go.Proofs.Ytdabcnjjbfmkaaa
open Go.RowKit TagPure
set_option linter.unusedVariables false

theorem tg_bd (x : Int) (i : Nat) : 0 ≤ tg x i ∧ tg x i ≤ 255 := by unfold tg; omega

theorem rtag_in (x : Int) (n : Nat) (w : World) (h0 : 0 ≤ x) (h1 : x < 18446744073709551616) (hn : n < 4) :
    Calls Try.prog 138 #[.int .u64 x, .int .i64 n] w fun e w' => e = .returned (.int .i64 (tg x n)) ∧ w = w' := by
  go_enter Try.func138, Try.ntmps138
  go_wp2
  go_loop [0, 5] (fun y i => ∃ (k : Nat) (d : Int), k ≤ n ∧ i = .int .i64 k ∧ y = .int .u64 d ∧ 0 ≤ d ∧ d ≤ x ∧ d = x / 256 ^ k) (fun _ i => n - (intOf i).toNat)
  case atStart => exact ⟨0, x, by omega, rfl, rfl, h0, Int.le_refl _, by simp⟩
  case round =>
    obtain ⟨k, d, hk, rfl, rfl, hd0, hd1, hd⟩ := hrel
    have HD := Lib.hid hd
    clear hd
    by_cases hlt : k < n
    · go_wp2
      go_round
      case rel => exact ⟨k + 1, d / 256, by omega, by go_num, rfl, by omega, by omega, by rw [HD.out, Int.pow_succ, Int.ediv_ediv_of_nonneg (by exact Int.le_of_lt (Int.pow_pos (by decide)))]⟩
      case measure => simp [intOf]; omega
    · obtain rfl : k = n := by omega
      go_wp2
      go_ret
      exact ⟨ret_i64 (by rw [HD.out]; rfl), rfl⟩
theorem rtag_out (x s : Int) (w : World) (h : s < 0 ∨ 4 ≤ s) :
    Calls Try.prog 138 #[.int .u64 x, .int .i64 s] w fun e w' => e = .returned (.int .i64 0) ∧ w = w' := by
  by_cases hs : s < 0
  · go_enter Try.func138, Try.ntmps138
    go_wp2
    go_ret
    exact ⟨rfl, rfl⟩
  · have hs' : 0 ≤ s := by omega
    have hs2 : 3 < s := by omega
    go_enter Try.func138, Try.ntmps138
    go_wp2
    go_ret
    exact ⟨rfl, rfl⟩
theorem rtag_any (x s : Int) (w : World) (h0 : 0 ≤ x) (h1 : x < 18446744073709551616) :
    Calls Try.prog 138 #[.int .u64 x, .int .i64 s] w fun e w' => e = .returned (.int .i64 (tagOf x s)) ∧ w = w' := by
  by_cases h : 0 ≤ s ∧ s < 4
  · unfold tagOf; rw [if_pos h]
    have := rtag_in x s.toNat w h0 h1 (by omega)
    rwa [Int.toNat_of_nonneg h.1] at this
  · unfold tagOf; rw [if_neg h]; exact rtag_out x s w (by omega)

theorem rwith_out (x s t : Int) (w : World) (h : (s < 0 ∨ 4 ≤ s) ∨ t < 0 ∨ 255 < t) :
    Calls Try.prog 98 #[.int .u64 x, .int .i64 s, .int .i64 t] w fun e w' => e = .returned (.int .u64 x) ∧ w = w' := by
  by_cases hs : s < 0
  · go_enter Try.func98, Try.ntmps98
    go_wp2
    go_ret
    exact ⟨rfl, rfl⟩
  · have hs' : 0 ≤ s := by omega
    by_cases hs2 : 3 < s
    · go_enter Try.func98, Try.ntmps98
      go_wp2
      go_ret
      exact ⟨rfl, rfl⟩
    · have hs3 : s ≤ 3 := by omega
      by_cases ht : t < 0
      · go_enter Try.func98, Try.ntmps98
        go_wp2
        go_ret
        exact ⟨rfl, rfl⟩
      · have ht' : 0 ≤ t := by omega
        have ht2 : 255 < t := by omega
        go_enter Try.func98, Try.ntmps98
        go_wp2
        go_ret
        exact ⟨rfl, rfl⟩
theorem put_bd (x t : Int) (n : Nat) (h0 : 0 ≤ x) (h1 : x < 18446744073709551616) (hn : n < 4) (t0 : 0 ≤ t) (t1 : t ≤ 255) :
    0 ≤ x - tg x n * 256 ^ n ∧ x - tg x n * 256 ^ n + t * 256 ^ n < 18446744073709551616 := by
  match n, hn with
  | 0, _ => simp only [tg]; omega
  | 1, _ => simp only [tg]; omega
  | 2, _ => simp only [tg]; omega
  | 3, _ => simp only [tg]; omega
theorem put_u64 (x t : Int) (n : Nat) (h0 : 0 ≤ x) (h1 : x < 18446744073709551616) (hn : n < 4) (t0 : 0 ≤ t) (t1 : t ≤ 255) : 0 ≤ put x n t ∧ put x n t < 18446744073709551616 := by
  have := put_bd x t n h0 h1 hn t0 t1
  have e : 0 ≤ t * 256 ^ n := Int.mul_nonneg t0 (Int.le_of_lt (Int.pow_pos (by decide)))
  unfold put; omega
set_option maxHeartbeats 800000 in
theorem rwith_in (x t : Int) (n : Nat) (w : World) (h0 : 0 ≤ x) (h1 : x < 18446744073709551616) (hn : n < 4) (t0 : 0 ≤ t) (t1 : t ≤ 255) :
    Calls Try.prog 98 #[.int .u64 x, .int .i64 n, .int .i64 t] w fun e w' => e = .returned (.int .u64 (put x n t)) ∧ w = w' := by
  have hb := put_bd x t n h0 h1 hn t0 t1
  have ht := tg_bd x n
  match n, hn with
  | 0, hn =>
    simp only [Int.pow_zero, Int.mul_one] at hb
    go_enter Try.func98, Try.ntmps98
    go_wp2_with fail
    refine wp_loop_rounds 1 ?_
    rw [rounds_succ]
    go_wp2_with (go_at_call 138; refine (rtag_in x 0 _ h0 h1 hn).mono ?_; rintro e w' ⟨rfl, rfl⟩)
    go_ret
    exact ⟨ret_u64 (by simp [put]), rfl⟩
  | 1, hn =>
    have e : (256 : Int) ^ 1 = 256 := rfl
    rw [e] at hb
    clear e
    go_enter Try.func98, Try.ntmps98
    go_wp2_with fail
    refine wp_loop_rounds 2 ?_
    rw [rounds_succ]
    go_wp2_with fail
    rw [rounds_succ]
    go_wp2_with (go_at_call 138; refine (rtag_in x 1 _ h0 h1 hn).mono ?_; rintro e w' ⟨rfl, rfl⟩)
    go_ret
    exact ⟨ret_u64 rfl, rfl⟩
  | 2, hn =>
    have e : (256 : Int) ^ 2 = 65536 := rfl
    rw [e] at hb
    clear e
    go_enter Try.func98, Try.ntmps98
    go_wp2_with fail
    refine wp_loop_rounds 3 ?_
    rw [rounds_succ]
    go_wp2_with fail
    rw [rounds_succ]
    go_wp2_with fail
    rw [rounds_succ]
    go_wp2_with (go_at_call 138; refine (rtag_in x 2 _ h0 h1 hn).mono ?_; rintro e w' ⟨rfl, rfl⟩)
    go_ret
    exact ⟨ret_u64 rfl, rfl⟩
  | 3, hn =>
    have e : (256 : Int) ^ 3 = 16777216 := rfl
    rw [e] at hb
    clear e
    go_enter Try.func98, Try.ntmps98
    go_wp2_with fail
    refine wp_loop_rounds 4 ?_
    rw [rounds_succ]
    go_wp2_with fail
    rw [rounds_succ]
    go_wp2_with fail
    rw [rounds_succ]
    go_wp2_with fail
    rw [rounds_succ]
    go_wp2_with (go_at_call 138; refine (rtag_in x 3 _ h0 h1 hn).mono ?_; rintro e w' ⟨rfl, rfl⟩)
    go_ret
    exact ⟨ret_u64 rfl, rfl⟩

theorem rwith_any (x s t : Int) (w : World) (h0 : 0 ≤ x) (h1 : x < 18446744073709551616) :
    Calls Try.prog 98 #[.int .u64 x, .int .i64 s, .int .i64 t] w fun e w' => e = .returned (.int .u64 (withOf x s t)) ∧ w = w' := by
  by_cases h : (0 ≤ s ∧ s < 4) ∧ 0 ≤ t ∧ t ≤ 255
  · unfold withOf; rw [if_pos h]
    have := rwith_in x t s.toNat w h0 h1 (by omega) h.2.1 h.2.2
    rwa [Int.toNat_of_nonneg h.1.1] at this
  · unfold withOf; rw [if_neg h]; exact rwith_out x s t w (by omega)
end Go.Proofs.Ytdabcnjjbfmkaaa
