/-
  The walks of nestboxref02: each function computes the same plain functions as package tagwords.
-/
import Derived.Test.YtalehdaeekkfiaaTagHas
namespace Go.Proofs.Ytalehdaeekkfiaa
open Go.RowKit TagPure
set_option linter.unusedVariables false

theorem tg_bd (x : Int) (i : Nat) : 0 ≤ tg x i ∧ tg x i ≤ 255 := by unfold tg; omega

theorem rtag_in (x : Int) (n : Nat) (w : World) (h0 : 0 ≤ x) (h1 : x < 18446744073709551616) (hn : n < 4) :
    Calls Try.prog 22 #[.int .u64 x, .int .i64 n] w fun e w' => e = .returned (.int .i64 (tg x n)) ∧ w = w' := by
  go_enter Try.func22, Try.ntmps22
  go_wp2
  go_loop [0, 5] (fun y i => ∃ (k : Nat) (d : Int), k ≤ n ∧ i = .int .i64 k ∧ y = .int .u64 d ∧ 0 ≤ d ∧ d ≤ x ∧ d = x / 256 ^ k) (fun _ i => n - (intOf i).toNat)
  case atStart => exact ⟨0, x, by omega, rfl, rfl, h0, Int.le_refl _, by simp⟩
  case round =>
    obtain ⟨k, d, hk, rfl, rfl, hd0, hd1, hd⟩ := hrel
    have HD := Lib.hid hd
    clear hd
    by_cases hlt : k < n
    · go_wp2
      go_round
      case rel => exact ⟨k + 1, d / 256, by omega, by go_num, rfl, by omega, by omega, by rw [HD.out, Int.pow_succ, Int.ediv_ediv_of_nonneg (by exact Int.le_of_lt (Int.pow_pos (by decide)))]⟩
      case measure => simp [intOf]; omega
    · obtain rfl : k = n := by omega
      go_wp2
      go_ret
      exact ⟨ret_i64 (by rw [HD.out]; rfl), rfl⟩
theorem rtag_out (x s : Int) (w : World) (h : s < 0 ∨ 4 ≤ s) :
    Calls Try.prog 22 #[.int .u64 x, .int .i64 s] w fun e w' => e = .returned (.int .i64 0) ∧ w = w' := by
  by_cases hs : s < 0
  · go_enter Try.func22, Try.ntmps22
    go_wp2
    go_ret
    exact ⟨rfl, rfl⟩
  · have hs' : 0 ≤ s := by omega
    have hs2 : 3 < s := by omega
    go_enter Try.func22, Try.ntmps22
    go_wp2
    go_ret
    exact ⟨rfl, rfl⟩
theorem rtag_any (x s : Int) (w : World) (h0 : 0 ≤ x) (h1 : x < 18446744073709551616) :
    Calls Try.prog 22 #[.int .u64 x, .int .i64 s] w fun e w' => e = .returned (.int .i64 (tagOf x s)) ∧ w = w' := by
  by_cases h : 0 ≤ s ∧ s < 4
  · unfold tagOf; rw [if_pos h]
    have := rtag_in x s.toNat w h0 h1 (by omega)
    rwa [Int.toNat_of_nonneg h.1] at this
  · unfold tagOf; rw [if_neg h]; exact rtag_out x s w (by omega)

theorem rwith_out (x s t : Int) (w : World) (h : (s < 0 ∨ 4 ≤ s) ∨ t < 0 ∨ 255 < t) :
    Calls Try.prog 24 #[.int .u64 x, .int .i64 s, .int .i64 t] w fun e w' => e = .returned (.int .u64 x) ∧ w = w' := by
  by_cases hs : s < 0
  · go_enter Try.func24, Try.ntmps24
    go_wp2
    go_ret
    exact ⟨rfl, rfl⟩
  · have hs' : 0 ≤ s := by omega
    by_cases hs2 : 3 < s
    · go_enter Try.func24, Try.ntmps24
      go_wp2
      go_ret
      exact ⟨rfl, rfl⟩
    · have hs3 : s ≤ 3 := by omega
      by_cases ht : t < 0
      · go_enter Try.func24, Try.ntmps24
        go_wp2
        go_ret
        exact ⟨rfl, rfl⟩
      · have ht' : 0 ≤ t := by omega
        have ht2 : 255 < t := by omega
        go_enter Try.func24, Try.ntmps24
        go_wp2
        go_ret
        exact ⟨rfl, rfl⟩
theorem put_bd (x t : Int) (n : Nat) (h0 : 0 ≤ x) (h1 : x < 18446744073709551616) (hn : n < 4) (t0 : 0 ≤ t) (t1 : t ≤ 255) :
    0 ≤ x - tg x n * 256 ^ n ∧ x - tg x n * 256 ^ n + t * 256 ^ n < 18446744073709551616 := by
  match n, hn with
  | 0, _ => simp only [tg]; omega
  | 1, _ => simp only [tg]; omega
  | 2, _ => simp only [tg]; omega
  | 3, _ => simp only [tg]; omega
theorem put_u64 (x t : Int) (n : Nat) (h0 : 0 ≤ x) (h1 : x < 18446744073709551616) (hn : n < 4) (t0 : 0 ≤ t) (t1 : t ≤ 255) : 0 ≤ put x n t ∧ put x n t < 18446744073709551616 := by
  have := put_bd x t n h0 h1 hn t0 t1
  have e : 0 ≤ t * 256 ^ n := Int.mul_nonneg t0 (Int.le_of_lt (Int.pow_pos (by decide)))
  unfold put; omega
set_option maxHeartbeats 800000 in
theorem rwith_in (x t : Int) (n : Nat) (w : World) (h0 : 0 ≤ x) (h1 : x < 18446744073709551616) (hn : n < 4) (t0 : 0 ≤ t) (t1 : t ≤ 255) :
    Calls Try.prog 24 #[.int .u64 x, .int .i64 n, .int .i64 t] w fun e w' => e = .returned (.int .u64 (put x n t)) ∧ w = w' := by
  have hb := put_bd x t n h0 h1 hn t0 t1
  have ht := tg_bd x n
  match n, hn with
  | 0, hn =>
    simp only [Int.pow_zero, Int.mul_one] at hb
    go_enter Try.func24, Try.ntmps24
    go_wp2_with fail
    refine wp_loop_rounds 1 ?_
    rw [rounds_succ]
    go_wp2_with (go_at_call 22; refine (rtag_in x 0 _ h0 h1 hn).mono ?_; rintro e w' ⟨rfl, rfl⟩)
    go_ret
    exact ⟨ret_u64 (by simp [put]), rfl⟩
  | 1, hn =>
    have e : (256 : Int) ^ 1 = 256 := rfl
    rw [e] at hb
    clear e
    go_enter Try.func24, Try.ntmps24
    go_wp2_with fail
    refine wp_loop_rounds 2 ?_
    rw [rounds_succ]
    go_wp2_with fail
    rw [rounds_succ]
    go_wp2_with (go_at_call 22; refine (rtag_in x 1 _ h0 h1 hn).mono ?_; rintro e w' ⟨rfl, rfl⟩)
    go_ret
    exact ⟨ret_u64 rfl, rfl⟩
  | 2, hn =>
    have e : (256 : Int) ^ 2 = 65536 := rfl
    rw [e] at hb
    clear e
    go_enter Try.func24, Try.ntmps24
    go_wp2_with fail
    refine wp_loop_rounds 3 ?_
    rw [rounds_succ]
    go_wp2_with fail
    rw [rounds_succ]
    go_wp2_with fail
    rw [rounds_succ]
    go_wp2_with (go_at_call 22; refine (rtag_in x 2 _ h0 h1 hn).mono ?_; rintro e w' ⟨rfl, rfl⟩)
    go_ret
    exact ⟨ret_u64 rfl, rfl⟩
  | 3, hn =>
    have e : (256 : Int) ^ 3 = 16777216 := rfl
    rw [e] at hb
    clear e
    go_enter Try.func24, Try.ntmps24
    go_wp2_with fail
    refine wp_loop_rounds 4 ?_
    rw [rounds_succ]
    go_wp2_with fail
    rw [rounds_succ]
    go_wp2_with fail
    rw [rounds_succ]
    go_wp2_with fail
    rw [rounds_succ]
    go_wp2_with (go_at_call 22; refine (rtag_in x 3 _ h0 h1 hn).mono ?_; rintro e w' ⟨rfl, rfl⟩)
    go_ret
    exact ⟨ret_u64 rfl, rfl⟩

theorem rwith_any (x s t : Int) (w : World) (h0 : 0 ≤ x) (h1 : x < 18446744073709551616) :
    Calls Try.prog 24 #[.int .u64 x, .int .i64 s, .int .i64 t] w fun e w' => e = .returned (.int .u64 (withOf x s t)) ∧ w = w' := by
  by_cases h : (0 ≤ s ∧ s < 4) ∧ 0 ≤ t ∧ t ≤ 255
  · unfold withOf; rw [if_pos h]
    have := rwith_in x t s.toNat w h0 h1 (by omega) h.2.1 h.2.2
    rwa [Int.toNat_of_nonneg h.1.1] at this
  · unfold withOf; rw [if_neg h]; exact rwith_out x s t w (by omega)

theorem rcount_any (x : Int) (w : World) (h0 : 0 ≤ x) (h1 : x < 18446744073709551616) :
    Calls Try.prog 32 #[.int .u64 x] w fun e w' => e = .returned (.int .i64 (cnt x 4)) ∧ w = w' := by
  go_enter Try.func32, Try.ntmps32
  go_wp2
  go_loop [3, 4] (fun n i => ∃ k : Nat, k ≤ 4 ∧ i = .int .i64 k ∧ n = .int .i64 (cnt x k)) (fun _ i => 4 - (intOf i).toNat)
  case atStart => exact ⟨0, by omega, rfl, rfl⟩
  case round =>
    obtain ⟨k, hk, rfl, rfl⟩ := hrel
    have hc := cnt_le x k
    have hb := tg_bd x k
    by_cases hlt : k < 4
    · by_cases hz : tg x k = 0
      · have hz' : ¬ 0 < tg x k := by omega
        have HC : Hid (cnt x (k + 1) = cnt x k) := by show _ = _; simp [cnt, hz]
        clear hz
        go_wp2_with (go_at_call 22; refine (rtag_in x k _ h0 h1 hlt).mono ?_; rintro e w' ⟨rfl, rfl⟩)
        go_round
        case rel => exact ⟨k + 1, by omega, by go_num, by rw [HC.out]⟩
        case measure => simp [intOf]; omega
      · have hz' : 0 < tg x k := by omega
        have HC : Hid (cnt x (k + 1) = cnt x k + 1) := by show _ = _; simp [cnt, hz]
        clear hz
        go_wp2_with (go_at_call 22; refine (rtag_in x k _ h0 h1 hlt).mono ?_; rintro e w' ⟨rfl, rfl⟩)
        go_round
        case rel => exact ⟨k + 1, by omega, by go_num, by rw [HC.out]; go_num⟩
        case measure => simp [intOf]; omega
    · obtain rfl : k = 4 := by omega
      go_wp2
      go_ret
      exact ⟨rfl, rfl⟩

theorem rfree_any (x : Int) (w : World) (h0 : 0 ≤ x) (h1 : x < 18446744073709551616) :
    Calls Try.prog 30 #[.int .u64 x] w fun e w' => e = .returned (.int .i64 (freeFrom x 0 4)) ∧ w = w' := by
  go_enter Try.func30, Try.ntmps30
  go_wp2
  go_loop [3] (fun i => ∃ k : Nat, k ≤ 4 ∧ i = .int .i64 k ∧ freeFrom x 0 4 = freeFrom x k (4 - k)) (fun i => 4 - (intOf i).toNat)
  case atStart => exact ⟨0, by omega, rfl, rfl⟩
  case round =>
    obtain ⟨k, hk, rfl, hf⟩ := hrel
    have HF := Lib.hid hf
    clear hf
    by_cases hlt : k < 4
    · obtain ⟨m, hm⟩ : ∃ m, 4 - k = m + 1 := ⟨4 - k - 1, by omega⟩
      by_cases hz : tg x k = 0
      · have hz' : (tg x k == 0) = true := by simp [hz]
        have HC : Hid (freeFrom x 0 4 = k) := by show _ = _; rw [HF.out, hm]; simp [freeFrom, hz]
        clear hz hm
        go_wp2_with (go_at_call 22; refine (rtag_in x k _ h0 h1 hlt).mono ?_; rintro e w' ⟨rfl, rfl⟩)
        go_ret
        exact ⟨ret_i64 HC.out.symm, rfl⟩
      · have hz' : (tg x k == 0) = false := by simp [hz]
        have HC : Hid (freeFrom x 0 4 = freeFrom x (k + 1) (4 - (k + 1))) := by show _ = _; rw [HF.out, hm, show 4 - (k + 1) = m from by omega]; simp [freeFrom, hz]
        clear hz hm
        go_wp2_with (go_at_call 22; refine (rtag_in x k _ h0 h1 hlt).mono ?_; rintro e w' ⟨rfl, rfl⟩)
        go_round
        case rel => exact ⟨k + 1, by omega, by go_num, HC.out⟩
        case measure => simp [intOf]; omega
    · obtain rfl : k = 4 := by omega
      go_wp2
      go_ret
      exact ⟨ret_i64 (by rw [HF.out]; rfl), rfl⟩

theorem rhas_zero (x : Int) (w : World) (h0 : 0 ≤ x) (h1 : x < 18446744073709551616) :
    Calls Try.prog 26 #[.int .u64 x, .int .i64 0] w fun e w' => e = .returned (.slice none 0 0) ∧ w = w' := by
  go_enter Try.func26, Try.ntmps26
  go_wp2
  go_loop [5, 6] (fun v i => ∃ k : Nat, k ≤ 4 ∧ i = .int .i64 k ∧ v = .slice none 0 0) (fun _ i => 4 - (intOf i).toNat)
  case atStart => exact ⟨0, by omega, rfl, rfl⟩
  case round =>
    obtain ⟨k, hk, rfl, rfl⟩ := hrel
    by_cases hlt : k < 4
    · go_wp2
      go_round
      case rel => exact ⟨k + 1, by omega, by go_num, rfl⟩
      case measure => simp [intOf]; omega
    · obtain rfl : k = 4 := by omega
      go_wp2
      go_ret
      exact ⟨rfl, rfl⟩

set_option maxHeartbeats 800000 in
theorem rhas_any (x t : Int) (w : World) (h0 : 0 ≤ x) (h1 : x < 18446744073709551616) (ht : t ≠ 0) :
    Calls Try.prog 26 #[.int .u64 x, .int .i64 t] w fun e w' => ∃ v, e = .returned v ∧ Lst w' w.heap.size v (has x t 4).length (cells (has x t 4)) ∧ Below w.heap.size w w' := by
  have ht' : (t != 0) = true := by simp [ht]
  clear ht
  obtain ⟨i0, hi0, hz0, hz1, hz2⟩ := info_parts info_int
  have HI := Lib.hid hi0; have HZ0 := Lib.hid hz0; have HZ1 := Lib.hid hz1; have HZ2 := Lib.hid hz2
  clear hi0 hz0 hz1 hz2
  go_enter Try.func26, Try.ntmps26
  go_wp2
  go_loopw [5, 6] (fun v i wr => ∃ k : Nat, k ≤ 4 ∧ i = .int .i64 k ∧ wr.ownsRow w.heap.size 3 1 v (has x t k).length (cells (has x t k)) ∧ Below w.heap.size w wr) (fun _ i _ => 4 - (intOf i).toNat)
  case atStart => exact ⟨0, by omega, rfl, World.ownsRow_nil _ _ _ _, Below.refl _ _⟩
  case round =>
    obtain ⟨k, hk, rfl, hown, hbl⟩ := hrel
    have hlen := has_le x t k
    by_cases hlt : k < 4
    · by_cases hz : tg x k = t
      · have hz' : (tg x k == t) = true := by simp [hz]
        have HC : Hid (has x t (k + 1) = has x t k ++ [k]) := by show _ = _; simp [has, hz]
        clear hz
        go_wp2_with (first | (go_at_call 22; refine (rtag_in x k _ h0 h1 hlt).mono ?_; rintro e w' ⟨rfl, rfl⟩) | (at_builtin; refine wpList_append_own _ rfl _ _ 23 rfl w.heap.size 3 i0 (.int .i64 0) 1 8 Try.underlying23 HI.out HZ0.out HZ1.out HZ2.out rfl (by decide) _ _ _ rfl (hown.alloc _) ⟨wr.heap.size, 0, none⟩ 1 1 [.int .i64 k] rfl rfl ?c1 ?c2 ?c3 ?c4 ?c5 ?_))
        case c1 => exact cell_one_new _ _ _
        case c2 => simp [Value.oneCell']
        case c3 => unfold maxLen; omega
        case c4 => omega
        case c5 => simp; have := hbl.size; omega
        intro v' w2 hown' hgrow _
        go_wp2
        go_roundw
        case rel =>
          refine ⟨k + 1, by omega, by go_num, ?_, (hbl.alloc hbl.size _).grown hgrow (by simp; have := hbl.size; omega) (fun j hj => (hown.lt j hj).1)⟩
          rw [HC.out]; simpa [cells] using hown'
        case measure => simp [intOf]; omega
      · have hz' : (tg x k == t) = false := by simp [hz]
        have HC : Hid (has x t (k + 1) = has x t k) := by show _ = _; simp [has, hz]
        clear hz
        go_wp2_with (first | (go_at_call 22; refine (rtag_in x k _ h0 h1 hlt).mono ?_; rintro e w' ⟨rfl, rfl⟩))
        go_roundw
        case rel => exact ⟨k + 1, by omega, by go_num, by rw [HC.out]; exact hown, hbl⟩
        case measure => simp [intOf]; omega
    · obtain rfl : k = 4 := by omega
      go_wp2
      go_ret
      exact ⟨_, rfl, Lst.of_own hown, hbl⟩
end Go.Proofs.Ytalehdaeekkfiaa
