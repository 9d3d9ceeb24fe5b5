/-
  The word of the epoch; a tick of it.
-/
import Derived.Test.YtmakjfeepmiggaaGreatLib
namespace Go.Proofs.YtmakjfeepmiggaaGreat
open Go.RowKit
set_option linter.unusedVariables false

theorem mask_u64 (x : Int) (m : Nat) (k : Nat) (hm : m = 2 ^ k - 1) (hk : k ≤ 63) (h0 : 0 ≤ x) (h1 : x < 18446744073709551616) : bits .and .u64 x (m : Int) = x % ((2 ^ k : Nat) : Int) := by
  obtain ⟨n, rfl⟩ := Int.eq_ofNat_of_zero_le h0
  have hp : (2 : Nat) ^ k ≤ 2 ^ 63 := Nat.pow_le_pow_right (by decide) hk
  have hp0 : 0 < (2 : Nat) ^ k := Nat.two_pow_pos k
  rw [u64_and _ _ (by omega) h1 (by omega) (by omega)]
  simp only [Int.toNat_natCast, hm, Nat.and_two_pow_sub_one_eq_mod]
  omega
theorem mask24 (x : Int) (h0 : 0 ≤ x) (h1 : x < 18446744073709551616) : bits .and .u64 x 16777215 = x % 16777216 := mask_u64 x 16777215 24 (by decide) (by decide) h0 h1
theorem mask16 (x : Int) (h0 : 0 ≤ x) (h1 : x < 18446744073709551616) : bits .and .u64 x 65535 = x % 65536 := mask_u64 x 65535 16 (by decide) (by decide) h0 h1
theorem or_up (a b : Int) (k : Nat) (hk : k ≤ 63) (a0 : 0 ≤ a) (a1 : a < ((2 ^ k : Nat) : Int)) (b0 : 0 ≤ b) (b1 : b * ((2 ^ k : Nat) : Int) < 18446744073709551616) : bits .or .u64 a (b * ((2 ^ k : Nat) : Int)) = a + b * ((2 ^ k : Nat) : Int) := by
  obtain ⟨n, rfl⟩ := Int.eq_ofNat_of_zero_le a0
  obtain ⟨m, rfl⟩ := Int.eq_ofNat_of_zero_le b0
  have hp : (2 : Nat) ^ k ≤ 2 ^ 63 := Nat.pow_le_pow_right (by decide) hk
  have e2 : ((m : Int) * ((2 ^ k : Nat) : Int)) = ((m * 2 ^ k : Nat) : Int) := by simp
  rw [e2] at b1 ⊢
  have hn : n < 2 ^ k := by omega
  rw [u64_or_nat _ _ (by omega) (by omega), Nat.or_comm, Nat.mul_comm, ← Nat.two_pow_add_eq_or_of_lt hn]
  omega

/-- The parts of the epoch's word. -/
def eNow (x : Int) : Int := x % 16777216
def eAt (x : Int) : Int := x / 16777216 % 16777216
def eGen (x : Int) : Int := x / 281474976710656 % 65536
def eWord (n a g : Int) : Int := n + a * 16777216 + g * 281474976710656

theorem said_any (x : Int) (hx : (Lit.int .u64 x).wf = true) (w : World) : Calls Tryz.prog 203 #[.int .u64 x] w fun e w' => e = .returned (.agg #[.int .i64 (eNow x), .int .i64 (eAt x), .int .i64 (eGen x)]) ∧ Below w.heap.size w w' := by
  have h : 0 ≤ x ∧ x < 18446744073709551616 := by
    have hmin : IntKind.u64.min = 0 := rfl
    have hmax : IntKind.u64.max = 18446744073709551615 := rfl
    simp only [Lit.wf, Bool.and_eq_true, decide_eq_true_eq] at hx; omega
  have m0 := mask24 x h.1 h.2
  have m1 := mask24 (x / 16777216) (by omega) (by omega)
  have m2 := mask16 (x / 281474976710656) (by omega) (by omega)
  have r0 : eNow x = x % 16777216 := rfl
  have r1 : eAt x = x / 16777216 % 16777216 := rfl
  have r2 : eGen x = x / 281474976710656 % 65536 := rfl
  rw [← r0] at m0
  rw [← r1] at m1
  rw [← r2] at m2
  have b0 : 0 ≤ eNow x ∧ eNow x < 16777216 := by omega
  have b1 : 0 ≤ eAt x ∧ eAt x < 16777216 := by omega
  have b2 : 0 ≤ eGen x ∧ eGen x < 65536 := by omega
  have w0 : wrap64 (eNow x) = eNow x := IntWalk.wrap64_in _ (by omega)
  have w1 : wrap64 (eAt x) = eAt x := IntWalk.wrap64_in _ (by omega)
  have w2 : wrap64 (eGen x) = eGen x := IntWalk.wrap64_in _ (by omega)
  clear r0 r1 r2 hx h b0 b1 b2
  generalize eNow x = n at *
  generalize eAt x = a at *
  generalize eGen x = g at *
  go_enter Tryz.func203, Tryz.ntmps203
  go_wp2
  refine bodyPost_ret (v := .agg #[.int .i64 n, .int .i64 a, .int .i64 g]) (by simp [results, Tryz.results203, go_sem]) rfl ⟨rfl, (Below.refl _ _).alloc (Nat.le_refl _) _⟩
theorem eword_any (n a g : Int) (hn : 0 ≤ n ∧ n < 16777216) (ha : 0 ≤ a ∧ a < 16777216) (hg : 0 ≤ g ∧ g < 65536) (w : World) : Calls Tryz.prog 204 #[.agg #[.int .i64 n, .int .i64 a, .int .i64 g]] w fun e w' => e = .returned (.int .u64 (eWord n a g)) ∧ Below w.heap.size w w' := by
  have m0 : bits .and .u64 n 16777215 = n := by rw [mask24 n (by omega) (by omega)]; omega
  have m1 : bits .and .u64 a 16777215 = a := by rw [mask24 a (by omega) (by omega)]; omega
  have m2 : bits .and .u64 g 65535 = g := by rw [mask16 g (by omega) (by omega)]; omega
  have o1 : bits .or .u64 n (a * 16777216) = n + a * 16777216 := or_up n a 24 (by decide) hn.1 (by simpa using hn.2) ha.1 (by simp; omega)
  have o2 : bits .or .u64 (n + a * 16777216) (g * 281474976710656) = eWord n a g := or_up (n + a * 16777216) g 48 (by decide) (by omega) (by simp; omega) hg.1 (by simp; omega)
  go_enter Tryz.func204, Tryz.ntmps204
  go_wp2
  go_ret
  exact ⟨rfl, (Below.refl _ _).alloc (Nat.le_refl _) _⟩

/-- The word a tick later. -/
def eNext (x : Int) : Int := if eNow x < 16777215 then eNow x + 1 else 16777215
def eTick (x : Int) : Int := if 0 < eAt x ∧ eAt x ≤ eNext x then eWord (eNext x) 0 (if eGen x < 65535 then eGen x + 1 else 65535) else eWord (eNext x) (eAt x) (eGen x)

set_option maxRecDepth 10000 in
theorem etick_any (x : Int) (hx : (Lit.int .u64 x).wf = true) (w : World) : Calls Tryz.prog 160 #[.int .u64 x] w fun e w' => e = .returned (.int .u64 (eTick x)) ∧ Below w.heap.size w w' := by
  have hs := said_any x hx w
  have b0 : 0 ≤ eNow x ∧ eNow x < 16777216 := by unfold eNow; omega
  have b1 : 0 ≤ eAt x ∧ eAt x < 16777216 := by unfold eAt; omega
  have b2 : 0 ≤ eGen x ∧ eGen x < 65536 := by unfold eGen; omega
  unfold eTick eNext
  clear hx
  generalize eNow x = n at *
  generalize eAt x = a at *
  generalize eGen x = g at *
  obtain ⟨n', hn'⟩ : ∃ n', n' = if n < 16777215 then n + 1 else 16777215 := ⟨_, rfl⟩
  rw [← hn']
  have c0 : 0 ≤ n' ∧ n' < 16777216 := by rw [hn']; split <;> omega
  have hmin : min (n + 1) 16777215 = n' := by rw [hn']; split <;> omega
  by_cases hd : 0 < a ∧ a ≤ n'
  · rw [if_pos hd]
    obtain ⟨g', hg'⟩ : ∃ g', g' = if g < 65535 then g + 1 else 65535 := ⟨_, rfl⟩
    rw [← hg']
    have c2 : 0 ≤ g' ∧ g' < 65536 := by rw [hg']; split <;> omega
    have hming : min (g + 1) 65535 = g' := by rw [hg']; split <;> omega
    go_enter Tryz.func160, Tryz.ntmps160
    go_wp2_with (first | (go_at_call 203; refine hs.mono ?_; rintro e w1 ⟨rfl, h1⟩) | (go_at_call 204; refine (eword_any _ _ _ (by omega) (by omega) (by omega) _).mono ?_; rintro e w2 ⟨rfl, h2⟩))
    all_goals (have hs1 := h1.size)
    all_goals go_ret
    all_goals refine ⟨rfl, Below.trans ?_ (h2.mono ?_)⟩
    all_goals first | (simp; done) | (simp; omega) | (repeat (first | exact h1 | (refine Below.setCell ?_ (by simpa using hs1) _) | (refine Below.alloc ?_ (by simpa using hs1) _)))
  · rw [if_neg hd]
    go_enter Tryz.func160, Tryz.ntmps160
    go_wp2_with (first | (go_at_call 203; refine hs.mono ?_; rintro e w1 ⟨rfl, h1⟩) | (go_at_call 204; refine (eword_any _ _ _ (by omega) (by omega) (by omega) _).mono ?_; rintro e w2 ⟨rfl, h2⟩))
    all_goals (have hs1 := h1.size)
    all_goals go_ret
    all_goals refine ⟨rfl, Below.trans ?_ (h2.mono ?_)⟩
    all_goals first | (simp; done) | (simp; omega) | (repeat (first | exact h1 | (refine Below.setCell ?_ (by simpa using hs1) _) | (refine Below.alloc ?_ (by simpa using hs1) _)))
end Go.Proofs.YtmakjfeepmiggaaGreat
