/-
  Four tags in a word: the plain arithmetic (no program in sight).
-/
import Derived.WalkKit
namespace Go.Proofs.Ytdabcnjjbfmkaaa.TagPure
open Go.RowKit

/-- The tag of slot i of the word x. -/
def tg (x : Int) (i : Nat) : Int := x / 256 ^ i % 256
/-- The word with a tag put at slot i. -/
def put (x : Int) (i : Nat) (t : Int) : Int := x - tg x i * 256 ^ i + t * 256 ^ i

theorem nat_put (k x t : Nat) (hk : k ≤ 56) (hx : x < 2 ^ 64) (ht : t < 2 ^ 8) :
    (x &&& (2 ^ k * (2 ^ 8 * (2 ^ (56 - k) - 1) + 0) + (2 ^ k - 1))) ||| (t * 2 ^ k) = 2 ^ k * (2 ^ 8 * (x / 2 ^ (k + 8)) + t) + x % 2 ^ k := by
  have hlo : x % 2 ^ k < 2 ^ k := Nat.mod_lt _ (Nat.two_pow_pos k)
  have hlo' : 2 ^ k - 1 < 2 ^ k := by have := Nat.two_pow_pos k; omega
  apply Nat.eq_of_testBit_eq
  intro j
  rw [Nat.testBit_or, Nat.testBit_and, Nat.testBit_mul_two_pow, Nat.testBit_two_pow_mul_add _ hlo, Nat.testBit_two_pow_mul_add _ hlo',
    Nat.testBit_two_pow_mul_add _ ht, Nat.testBit_two_pow_mul_add _ (by decide : (0 : Nat) < 2 ^ 8)]
  by_cases h1 : j < k
  · have : ¬ k ≤ j := by omega
    simp [h1, this, Nat.testBit_mod_two_pow, Nat.testBit_two_pow_sub_one]
  · have h1' : k ≤ j := by omega
    by_cases h2 : j - k < 8
    · simp [h1, h1', h2]
    · have e : Nat.testBit t (j - k) = false := Nat.testBit_lt_two_pow (Nat.lt_of_lt_of_le ht (Nat.pow_le_pow_right (by decide) (by omega)))
      have e2 : Nat.testBit (x / 2 ^ (k + 8)) (j - k - 8) = Nat.testBit x j := by
        rw [Nat.testBit_div_two_pow]; congr 1; omega
      simp only [h1, h2, if_false, e, e2, Bool.and_false, Bool.or_false, Nat.testBit_two_pow_sub_one]
      by_cases h3 : j < 64
      · have : j - k - 8 < 56 - k := by omega
        simp [this]
      · have : Nat.testBit x j = false := Nat.testBit_lt_two_pow (Nat.lt_of_lt_of_le hx (Nat.pow_le_pow_right (by decide) (by omega)))
        simp [this]

theorem int_put (x t : Int) (u k C : Nat) (hu : u = 2 ^ k) (hk : k ≤ 56) (hC : C = 2 ^ k * (2 ^ 8 * (2 ^ (56 - k) - 1) + 0) + (2 ^ k - 1)) (hC' : (18446744073709551615 - 255 * u : Nat) = C) (hu' : u ≤ 72057594037927936)
    (h0 : 0 ≤ x) (h1 : x < 18446744073709551616) (t0 : 0 ≤ t) (t1 : t ≤ 255) :
    bits .or .u64 (bits .andNot .u64 x (255 * (u : Int))) (t * (u : Int)) = x - x / (u : Int) % 256 * (u : Int) + t * (u : Int) := by
  obtain ⟨n, rfl⟩ := Int.eq_ofNat_of_zero_le h0
  obtain ⟨m, rfl⟩ := Int.eq_ofNat_of_zero_le t0
  have hm : m * u ≤ 255 * 72057594037927936 := Nat.mul_le_mul (by omega) hu'
  rw [u64_andNot _ _ (by omega) (by omega) (by omega) (by omega)]
  have e1 : (255 * (u : Int)).toNat = 255 * u := by omega
  have e2 : ((m : Int) * (u : Int)) = ((m * u : Nat) : Int) := by simp
  rw [e1, e2, hC']
  simp only [Int.toNat_natCast]
  have hb : n &&& C < 18446744073709551616 := Nat.lt_of_le_of_lt Nat.and_le_left (by omega)
  rw [u64_or_nat _ _ hb (by omega), hC, hu, nat_put k n m hk (by omega) (by omega)]
  have hpos : 0 < 2 ^ k := Nat.two_pow_pos k
  have a := Nat.div_add_mod n (2 ^ k)
  have b := Nat.div_add_mod (n / 2 ^ k) 256
  have c : n / 2 ^ (k + 8) = n / 2 ^ k / 256 := by rw [Nat.pow_add, Nat.div_div_eq_div_mul]
  rw [c, show (2 : Nat) ^ 8 = 256 from rfl]
  generalize 2 ^ k = P at *
  generalize hq : n / P = q at *
  generalize hr : n % P = r at *
  generalize hs : q / 256 = s at *
  generalize hv : q % 256 = v at *
  have d : ((n : Int) / (P : Int)) % 256 = (v : Int) := by
    rw [← Int.natCast_ediv, hq]; omega
  rw [d]
  have f : (n : Int) = (P : Int) * (256 * (s : Int) + (v : Int)) + (r : Int) := by
    have a' := a; rw [← b] at a'; rw [← a', Int.natCast_add, Int.natCast_mul, Int.natCast_add, Int.natCast_mul]; rfl
  rw [f]
  rw [Int.natCast_add, Int.natCast_mul, Int.natCast_add, Int.natCast_mul, show ((256 : Nat) : Int) = 256 from rfl]
  rw [Int.mul_add, Int.mul_add, Int.mul_comm (v : Int) (P : Int), Int.natCast_mul m P, Int.mul_comm (m : Int) (P : Int)]
  omega

theorem put0 (x t : Int) (h0 : 0 ≤ x) (h1 : x < 18446744073709551616) (t0 : 0 ≤ t) (t1 : t ≤ 255) :
    bits .or .u64 (bits .andNot .u64 x 255) t = put x 0 t := by
  have := int_put x t 1 0 18446744073709551360 rfl (by decide) (by decide) (by decide) (by decide) h0 h1 t0 t1
  simpa [put, tg] using this
theorem put1 (x t : Int) (h0 : 0 ≤ x) (h1 : x < 18446744073709551616) (t0 : 0 ≤ t) (t1 : t ≤ 255) :
    bits .or .u64 (bits .andNot .u64 x 65280) (t * 256) = put x 1 t := by
  have := int_put x t 256 8 18446744073709486335 rfl (by decide) (by decide) (by decide) (by decide) h0 h1 t0 t1
  simpa [put, tg] using this
theorem put2 (x t : Int) (h0 : 0 ≤ x) (h1 : x < 18446744073709551616) (t0 : 0 ≤ t) (t1 : t ≤ 255) :
    bits .or .u64 (bits .andNot .u64 x 16711680) (t * 65536) = put x 2 t := by
  have := int_put x t 65536 16 18446744073692839935 rfl (by decide) (by decide) (by decide) (by decide) h0 h1 t0 t1
  simpa [put, tg] using this
theorem put3 (x t : Int) (h0 : 0 ≤ x) (h1 : x < 18446744073709551616) (t0 : 0 ≤ t) (t1 : t ≤ 255) :
    bits .or .u64 (bits .andNot .u64 x 4278190080) (t * 16777216) = put x 3 t := by
  have := int_put x t 16777216 24 18446744069431361535 rfl (by decide) (by decide) (by decide) (by decide) h0 h1 t0 t1
  simpa [put, tg] using this
theorem and255 (x : Int) (h0 : 0 ≤ x) (h1 : x < 18446744073709551616) : bits .and .u64 x 255 = x % 256 := by
  obtain ⟨n, rfl⟩ := Int.eq_ofNat_of_zero_le h0
  rw [u64_and _ _ (by omega) h1 (by omega) (by omega)]
  simp only [Int.toNat_natCast, show (255 : Int).toNat = 255 from rfl, nat_mask8]
  omega
def tagOf (x s : Int) : Int := if 0 ≤ s ∧ s < 4 then tg x s.toNat else 0
def withOf (x s t : Int) : Int := if (0 ≤ s ∧ s < 4) ∧ 0 ≤ t ∧ t ≤ 255 then put x s.toNat t else x
end Go.Proofs.Ytdabcnjjbfmkaaa.TagPure
