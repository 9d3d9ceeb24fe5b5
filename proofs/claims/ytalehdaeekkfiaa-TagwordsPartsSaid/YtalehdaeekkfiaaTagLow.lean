/-
  The walk of TagwordsLow.
-/
import Derived.Test.YtalehdaeekkfiaaTagWith
namespace Go.Proofs.Ytalehdaeekkfiaa
open Go.RowKit TagPure
set_option linter.unusedVariables false

def alk (a b : Int) : Nat → Bool
  | 0 => true
  | k + 1 => alk a b k && (tg a k == tg b k)
theorem alk_iff (a b : Int) (ha : 0 ≤ a) (hb : 0 ≤ b) : alk a b 4 = (a % 4294967296 == b % 4294967296) := by
  rw [Bool.eq_iff_iff]
  simp [alk, tg]
  omega
theorem low_tg (a b : Int) (ha : 0 ≤ a) (hb : 0 ≤ b) (i : Nat) (hi : i < 4) : tg (a % 4294967296 + b / 4294967296 * 4294967296) i = tg a i := by
  match i, hi with
  | 0, _ | 1, _ | 2, _ | 3, _ => simp [tg] <;> omega
theorem has_congr {x y : Int} (t : Int) : ∀ k, (∀ i, i < k → tg x i = tg y i) → has x t k = has y t k
  | 0, _ => rfl
  | k + 1, h => by simp only [has]; rw [has_congr t k (fun i hi => h i (by omega)), h k (by omega)]
theorem cnt_congr {x y : Int} : ∀ k, (∀ i, i < k → tg x i = tg y i) → cnt x k = cnt y k
  | 0, _ => rfl
  | k + 1, h => by simp only [cnt]; rw [cnt_congr k (fun i hi => h i (by omega)), h k (by omega)]
theorem free_congr {x y : Int} : ∀ n k, (∀ i, k ≤ i → i < k + n → tg x i = tg y i) → freeFrom x k n = freeFrom y k n
  | 0, _, _ => rfl
  | n + 1, k, h => by simp only [freeFrom]; rw [h k (by omega) (by omega), free_congr n (k + 1) (fun i h1 h2 => h i (by omega) (by omega))]

set_option maxHeartbeats 1000000 in
theorem walkTagwordsLow (a : Int) (hx : (Lit.int .u64 a).wf = true) (b : Int) (hs : (Lit.int .u64 b).wf = true) (t : Int) (ht : (Lit.int .i64 t).wf = true) (w : World) :
    Calls Try.prog 12 #[.int .u64 a, .int .u64 b, .int .i64 t] w fun e w' => e = .returned (.bool true) ∧ Below w.heap.size w w' := by
  obtain ⟨a0, a1⟩ := wf_u64 hx
  obtain ⟨b0, b1⟩ := wf_u64 hs
  clear hx hs ht
  have HA := Lib.hid (alk_iff a b a0 b0)
  have HT := fun i hi => Lib.hid (low_tg a b a0 b0 i hi)
  go_enter Try.func12, Try.ntmps12
  go_wp2_with fail
  go_loopw [7, 8] (fun v i wr => ∃ (k : Nat) (p : Bool), k ≤ 4 ∧ i = .int .i64 k ∧ v = .bool p ∧ p = alk a b k ∧ Below w.heap.size w wr) (fun _ i _ => 4 - (intOf i).toNat)
  case atStart => exact ⟨0, true, by omega, rfl, rfl, rfl, Below.refl _ _⟩
  case round =>
    obtain ⟨k, p, hk, rfl, rfl, hp, hB⟩ := hrel
    have HP := Lib.hid hp
    clear hp
    by_cases hlt : k < 4
    · cases p with
      | true =>
        go_wp2_with (first
          | (go_at_call 21; refine (tag_nat _ k _ (by omega) (by omega) hlt).mono ?_; rintro e W' ⟨rfl, hb⟩; replace hB := hB.trans (hb.mono hB.size); clear hb))
        go_roundw
        case rel => exact ⟨k + 1, _, by omega, by go_num, rfl, by simp [alk, ← HP.out], hB⟩
        case measure => simp [intOf]; omega
      | false =>
        go_wp2
        go_roundw
        case rel => exact ⟨k + 1, _, by omega, by go_num, rfl, by simp [alk, ← HP.out], hB⟩
        case measure => simp [intOf]; omega
    · obtain rfl : k = 4 := by omega
      have hq : (p == (a % 4294967296 == b % 4294967296)) = true := by rw [HP.out, HA.out]; simp
      clear HA HP
      go_wp2_with fail
      refine (has_full _ _ _ a0 a1).mono ?_
      rintro e w1 ⟨v1, rfl, hl1, hb1⟩
      go_wp2_with fail
      refine (has_full _ _ _ (by omega) (by omega)).mono ?_
      rintro e w2 ⟨v2, rfl, hl2, hb2⟩
      have EH : (if t = 0 then [] else has (a % 4294967296 + b / 4294967296 * 4294967296) t 4) = (if t = 0 then [] else has a t 4) := by
        rw [has_congr t 4 (fun i hi => (HT i hi).out)]
      rw [EH] at hl2
      clear EH
      have hl12 := hl1.below hb2 (Nat.le_refl _)
      have e1 : (freeFrom a 0 4 == freeFrom (a % 4294967296 + b / 4294967296 * 4294967296) 0 4) = true := by
        rw [free_congr 4 0 (fun i _ hi => (HT i (by omega)).out)]; simp
      have e2 : ((cnt a 4 : Int) == (cnt (a % 4294967296 + b / 4294967296 * 4294967296) 4 : Int)) = true := by
        rw [cnt_congr 4 (fun i hi => (HT i hi).out)]; simp
      replace hB := hB.trans (hb1.mono hB.size)
      replace hB := hB.trans (hb2.mono hB.size)
      clear hb1 hb2 hl1
      go_wp2_with (first
        | (go_at_call 28; refine (same02 _ _ _ _ hl12.rd hl2.rd).mono ?_; rintro e W' ⟨rfl, hb⟩; replace hB := hB.trans (hb.mono hB.size); clear hb)
        | (go_at_call 29; refine (free_any _ _ (by omega) (by omega)).mono ?_; rintro e W' ⟨rfl, hb⟩; replace hB := hB.trans (hb.mono hB.size); clear hb)
        | (go_at_call 31; refine (count_any _ _ (by omega) (by omega)).mono ?_; rintro e W' ⟨rfl, hb⟩; replace hB := hB.trans (hb.mono hB.size); clear hb)
        | (go_at_call 25; refine (lives02 _).mono ?_; rintro e W' ⟨rfl, hb⟩; replace hB := hB.trans (hb.mono hB.size); clear hb))
      go_ret
      exact ⟨rfl, hB⟩
end Go.Proofs.Ytalehdaeekkfiaa
