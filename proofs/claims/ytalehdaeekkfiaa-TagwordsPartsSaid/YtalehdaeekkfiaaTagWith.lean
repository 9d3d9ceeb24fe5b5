/-
  The walks of TagwordsWith and TagwordsLow.
-/
import Derived.Test.YtalehdaeekkfiaaTagLaw
namespace Go.Proofs.Ytalehdaeekkfiaa
open Go.RowKit TagPure
set_option linter.unusedVariables false

theorem tag_nat (x : Int) (n : Nat) (w : World) (h0 : 0 ≤ x) (h1 : x < 18446744073709551616) (hn : n < 4) :
    Calls Try.prog 21 #[.int .u64 x, .int .i64 n] w fun e w' => e = .returned (.int .i64 (tg x n)) ∧ Below w.heap.size w w' := by
  have := tag_in x n w h0 h1 (by omega) (by omega)
  simpa using this

theorem tg_put (x t : Int) (n i : Nat) (h0 : 0 ≤ x) (hn : n < 4) (hi : i < 4) (t0 : 0 ≤ t) (t1 : t ≤ 255) : tg (put x n t) i = if i = n then t else tg x i := by
  match n, i, hn, hi with
  | 0, 0, _, _ | 0, 1, _, _ | 0, 2, _, _ | 0, 3, _, _ | 1, 0, _, _ | 1, 1, _, _ | 1, 2, _, _ | 1, 3, _, _
  | 2, 0, _, _ | 2, 1, _, _ | 2, 2, _, _ | 2, 3, _, _ | 3, 0, _, _ | 3, 1, _, _ | 3, 2, _, _ | 3, 3, _, _ => simp [put, tg] <;> omega
theorem put_hi (x t : Int) (n : Nat) (h0 : 0 ≤ x) (hn : n < 4) (t0 : 0 ≤ t) (t1 : t ≤ 255) : put x n t / 4294967296 = x / 4294967296 := by
  match n, hn with
  | 0, _ | 1, _ | 2, _ | 3, _ => simp [put, tg] <;> omega
theorem put_put (x t : Int) (n : Nat) (h0 : 0 ≤ x) (hn : n < 4) (t0 : 0 ≤ t) (t1 : t ≤ 255) : put (put x n t) n (tg x n) = x := by
  have e := tg_put x t n n h0 hn hn t0 t1
  rw [if_pos rfl] at e
  show put x n t - tg (put x n t) n * 256 ^ n + tg x n * 256 ^ n = x
  rw [e]; unfold put; omega

set_option maxHeartbeats 1000000 in
theorem walkTagwordsWith (x : Int) (hx : (Lit.int .u64 x).wf = true) (s : Int) (hs : (Lit.int .i64 s).wf = true) (t : Int) (ht : (Lit.int .i64 t).wf = true) (w : World) :
    Calls Try.prog 10 #[.int .u64 x, .int .i64 s, .int .i64 t] w fun e w' => e = .returned (.bool true) ∧ Below w.heap.size w w' := by
  obtain ⟨h0, h1⟩ := wf_u64 hx
  clear hx hs ht
  by_cases h : (s < 0 ∨ 4 ≤ s) ∨ t < 0 ∨ 255 < t
  · have hd : decide (s < 0) = true ∨ (decide (s < 0) = false ∧ decide (3 < s) = true) ∨ (decide (s < 0) = false ∧ decide (3 < s) = false ∧ decide (t < 0) = true) ∨ (decide (s < 0) = false ∧ decide (3 < s) = false ∧ decide (t < 0) = false ∧ decide (255 < t) = true) := by
      simp only [decide_eq_true_eq, decide_eq_false_iff_not]; omega
    have C := with_out x s t
    clear hd
    by_cases c1 : s < 0
    · go_enter Try.func10, Try.ntmps10
      go_wp2_with (first
        | (go_at_call 23; refine (C _ h).mono ?_; rintro e W' ⟨rfl, rfl⟩)
        | (go_at_call 25; refine (lives02 _).mono ?_; rintro e W' ⟨rfl, hb⟩))
      go_ret
      exact ⟨rfl, hb⟩
    · have c1' : 0 ≤ s := by omega
      by_cases c2 : 3 < s
      · go_enter Try.func10, Try.ntmps10
        go_wp2_with (first
          | (go_at_call 23; refine (C _ h).mono ?_; rintro e W' ⟨rfl, rfl⟩)
          | (go_at_call 25; refine (lives02 _).mono ?_; rintro e W' ⟨rfl, hb⟩))
        go_ret
        exact ⟨rfl, hb⟩
      · have c2' : s ≤ 3 := by omega
        by_cases c3 : t < 0
        · go_enter Try.func10, Try.ntmps10
          go_wp2_with (first
            | (go_at_call 23; refine (C _ h).mono ?_; rintro e W' ⟨rfl, rfl⟩)
            | (go_at_call 25; refine (lives02 _).mono ?_; rintro e W' ⟨rfl, hb⟩))
          go_ret
          exact ⟨rfl, hb⟩
        · have c3' : 0 ≤ t := by omega
          have c4 : 255 < t := by omega
          go_enter Try.func10, Try.ntmps10
          go_wp2_with (first
            | (go_at_call 23; refine (C _ h).mono ?_; rintro e W' ⟨rfl, rfl⟩)
            | (go_at_call 25; refine (lives02 _).mono ?_; rintro e W' ⟨rfl, hb⟩))
          go_ret
          exact ⟨rfl, hb⟩
  · obtain ⟨n, rfl⟩ := Int.eq_ofNat_of_zero_le (show 0 ≤ s by omega)
    have hn : n < 4 := by omega
    have hn3 : (n : Int) ≤ 3 := by omega
    have t0 : 0 ≤ t := by omega
    have t1 : t ≤ 255 := by omega
    clear h
    have hp := put_u64 x t n h0 h1 hn t0 t1
    have E1 := Lib.hid (put_hi x t n h0 hn t0 t1)
    have E2 := Lib.hid (put_put x t n h0 hn t0 t1)
    have E3 := fun i hi => Lib.hid (tg_put x t n i h0 hn hi t0 t1)
    have hT := tg_bd x n
    have hB0 := Below.refl w.heap.size w
    go_enter Try.func10, Try.ntmps10
    go_wp2_with fail
    refine (with_in x t n _ h0 h1 hn t0 t1).mono ?_
    rintro e w1 ⟨rfl, hb1⟩
    generalize put x n t = y at *
    have e1 : (y / 4294967296 == x / 4294967296) = true := by rw [E1.out]; simp
    go_wp2_with fail
    go_loopw [8] (fun i wr => ∃ k : Nat, k ≤ 4 ∧ i = .int .i64 k ∧ Below w.heap.size w wr) (fun i _ => 4 - (intOf i).toNat)
    case atStart => exact ⟨0, by omega, rfl, hb1⟩
    case round =>
      obtain ⟨k, hk, rfl, hB⟩ := hrel
      by_cases hlt : k < 4
      · by_cases hkn : k = n
        · subst hkn
          have ek : ((k : Int) == (k : Int)) = true := by simp
          have e2 : (tg y k != t) = false := by rw [(E3 k hlt).out]; simp
          go_wp2_with (first
            | (go_at_call 21; refine (tag_nat _ k _ (by omega) (by omega) hlt).mono ?_; rintro e W' ⟨rfl, hb⟩; replace hB := hB.trans (hb.mono hB.size); clear hb))
          go_roundw
          case rel => exact ⟨k + 1, by omega, by go_num, hB⟩
          case measure => simp [intOf]; omega
        · have ek : ((k : Int) == (n : Int)) = false := by simp; omega
          have e2 : (tg y k != tg x k) = false := by rw [(E3 k hlt).out, if_neg hkn]; simp
          clear hkn
          go_wp2_with (first
            | (go_at_call 21; refine (tag_nat _ k _ (by omega) (by omega) hlt).mono ?_; rintro e W' ⟨rfl, hb⟩; replace hB := hB.trans (hb.mono hB.size); clear hb))
          go_roundw
          case rel => exact ⟨k + 1, by omega, by go_num, hB⟩
          case measure => simp [intOf]; omega
      · obtain rfl : k = 4 := by omega
        have e3 : (put y n (tg x n) == x) = true := by rw [E2.out]; simp
        go_wp2_with (first
          | (go_at_call 21; refine (tag_nat _ n _ (by omega) (by omega) hn).mono ?_; rintro e W' ⟨rfl, hb⟩; replace hB := hB.trans (hb.mono hB.size); clear hb)
          | (go_at_call 23; refine (with_in y (tg x n) n _ (by omega) (by omega) hn (by omega) (by omega)).mono ?_; rintro e W' ⟨rfl, hb⟩; replace hB := hB.trans (hb.mono hB.size); clear hb)
          | (go_at_call 25; refine (lives02 _).mono ?_; rintro e W' ⟨rfl, hb⟩; replace hB := hB.trans (hb.mono hB.size); clear hb))
        go_ret
        exact ⟨rfl, hB⟩
end Go.Proofs.Ytalehdaeekkfiaa
