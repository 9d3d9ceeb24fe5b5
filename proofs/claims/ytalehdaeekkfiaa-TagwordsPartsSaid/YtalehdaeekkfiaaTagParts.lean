/-
  The walk of TagwordsParts.
-/
import Derived.Test.YtalehdaeekkfiaaTagLow
import Derived.Deep.RegionHeld3
import Derived.Deep.DrawnRows
namespace Go.Proofs.Ytalehdaeekkfiaa
open Go.RowKit TagPure
set_option linter.unusedVariables false
attribute [local go_sem ↓] Go.wp_at_zero Go.wp_at_succ

theorem has_mem (x t : Int) : ∀ k, ∀ n ∈ has x t k, n < k ∧ tg x n = t
  | 0, _, h => by simp [has] at h
  | k + 1, n, h => by
    simp only [has, List.mem_append] at h
    rcases h with h | h
    · have := has_mem x t k n h; exact ⟨by omega, this.2⟩
    · split at h
      · simp at h; subst h; exact ⟨by omega, by assumption⟩
      · simp at h
theorem has_iff (x t : Int) : ∀ k n, n ∈ has x t k ↔ n < k ∧ tg x n = t
  | 0, n => by simp [has]
  | k + 1, n => by
    simp only [has, List.mem_append, has_iff x t k n]
    by_cases h : tg x k = t
    · simp [h]
      constructor
      · rintro (⟨a, b⟩ | rfl)
        · exact ⟨by omega, b⟩
        · exact ⟨by omega, h⟩
      · rintro ⟨a, b⟩
        by_cases e : n = k
        · exact .inr e
        · exact .inl ⟨by omega, b⟩
    · simp [h]
      intro b
      constructor
      · intro a; omega
      · intro a
        by_cases e : n = k
        · subst e; exact (h b).elim
        · omega
theorem has_pairwise (x t : Int) : ∀ k, (has x t k).Pairwise (· < ·)
  | 0 => by simp [has]
  | k + 1 => by
    simp only [has]
    rw [List.pairwise_append]
    refine ⟨has_pairwise x t k, by split <;> simp, ?_⟩
    intro a ha b hb
    have := (has_mem x t k a ha).1
    split at hb
    · simp at hb; omega
    · simp at hb
theorem has_rise (x t : Int) (k i : Nat) (hi : i + 1 < (has x t k).length) : (has x t k)[i] < (has x t k)[i + 1] :=
  List.pairwise_iff_getElem.1 (has_pairwise x t k) i (i + 1) (by omega) hi (by omega)

/-- Four counts as cells. -/
def sc (f : Nat → Int) : Array Value := #[.int .i64 (f 0), .int .i64 (f 1), .int .i64 (f 2), .int .i64 (f 3)]
theorem sc_get (f : Nat → Int) (s : Nat) (h : s < 4) : (sc f)[s]? = some (.int .i64 (f s)) := by
  match s, h with
  | 0, _ | 1, _ | 2, _ | 3, _ => rfl
def upd (f : Nat → Int) (s : Nat) (v : Int) : Nat → Int := fun i => if i = s then v else f i
theorem sc_set (f : Nat → Int) (s : Nat) (h : s < 4) (v : Int) : (sc f).setIfInBounds s (.int .i64 v) = sc (upd f s v) := by
  match s, h with
  | 0, _ | 1, _ | 2, _ | 3, _ => simp [sc, upd]

/-- Slot s has been seen behind all tags below k, and in the first part of the list. -/
def seenTo (x : Int) (k : Nat) (l : List Nat) (s : Nat) : Int := (if 1 ≤ tg x s ∧ tg x s < k then 1 else 0) + (if s ∈ l then 1 else 0)

theorem seen_next (x : Int) (k s : Nat) (h1 : 1 ≤ k) (hs : s < 4) : seenTo x k (has x k 4) s = seenTo x (k + 1) [] s := by
  unfold seenTo
  simp only [has_iff, List.not_mem_nil, if_false]
  have e1 : (if s < 4 ∧ tg x s = k then (1 : Int) else 0) = if tg x s = k then 1 else 0 := by simp [hs]
  rw [e1]
  repeat' split
  all_goals omega
theorem seen_step (x : Int) (k j s : Nat) (l : List Nat) (hp : l.Pairwise (· < ·)) (hj : j < l.length) :
    seenTo x k (l.take (j + 1)) s = seenTo x k (l.take j) s + (if s = l[j] then 1 else 0) := by
  unfold seenTo
  rw [List.take_add_one, List.getElem?_eq_getElem hj]
  simp only [Option.toList, List.mem_append, List.mem_singleton]
  by_cases e : s = l[j]
  · have : s ∉ l.take j := by
      intro hm
      obtain ⟨i, hi, he⟩ := List.mem_iff_getElem.1 hm
      rw [List.getElem_take] at he
      have hl : i < j := by have := List.length_take_le j l; omega
      have := List.pairwise_iff_getElem.1 hp i j (by omega) hj hl
      omega
    have e1 : (if s ∈ l.take j ∨ s = l[j] then (1 : Int) else 0) = 1 := if_pos (Or.inr e)
    have e2 : (if s ∈ l.take j then (1 : Int) else 0) = 0 := if_neg this
    rw [e1, e2, if_pos e]; omega
  · simp [e]

def nHi (x : Int) : Nat → Int
  | 0 => 0
  | t + 1 => nHi x t + if tg x (3 - t) = 0 then 0 else 1
def lowHi (x : Int) : Nat → Int
  | 0 => -1
  | t + 1 => if tg x (3 - t) = 0 then 3 - (t : Int) else lowHi x t
theorem nHi_cnt (x : Int) : nHi x 4 = cnt x 4 := by
  simp only [nHi, cnt]
  repeat' split
  all_goals simp_all
theorem lowHi_free (x : Int) : lowHi x 4 = freeFrom x 0 4 := by
  simp only [lowHi, freeFrom]
  repeat' split
  all_goals simp_all
theorem nHi_bd (x : Int) (t : Nat) : 0 ≤ nHi x t ∧ nHi x t ≤ t := by
  induction t with
  | zero => simp [nHi]
  | succ t ih => simp only [nHi]; split <;> omega
theorem free_cases (x : Int) : freeFrom x 0 4 = -1 ∨ ∃ n : Nat, n < 4 ∧ freeFrom x 0 4 = n ∧ tg x n = 0 := by
  simp only [freeFrom]
  repeat' split
  · exact .inr ⟨0, by omega, rfl, by assumption⟩
  · exact .inr ⟨1, by omega, rfl, by assumption⟩
  · exact .inr ⟨2, by omega, rfl, by assumption⟩
  · exact .inr ⟨3, by omega, rfl, by assumption⟩
  · exact .inl rfl
theorem cnt_put (x t : Int) (n : Nat) (h0 : 0 ≤ x) (hn : n < 4) (hz : tg x n = 0) (t0 : 1 ≤ t) (t1 : t ≤ 255) : (cnt (put x n t) 4 : Int) = cnt x 4 + 1 := by
  have E := fun i hi => tg_put x t n i h0 hn hi (by omega) t1
  have nt : t ≠ 0 := by omega
  simp only [cnt]
  rw [E 0 (by omega), E 1 (by omega), E 2 (by omega), E 3 (by omega)]
  match n, hn with
  | 0, _ | 1, _ | 2, _ | 3, _ => simp [hz, nt] <;> omega
theorem free_put (x t : Int) (n : Nat) (h0 : 0 ≤ x) (hn : n < 4) (t0 : 1 ≤ t) (t1 : t ≤ 255) : freeFrom (put x n t) 0 4 ≠ n := by
  have E := fun i hi => tg_put x t n i h0 hn hi (by omega) t1
  have nt : t ≠ 0 := by omega
  simp only [freeFrom]
  rw [E 0 (by omega), E 1 (by omega), E 2 (by omega), E 3 (by omega)]
  match n, hn with
  | 0, _ | 1, _ | 2, _ | 3, _ => simp [nt]; (repeat' split) <;> omega
end Go.Proofs.Ytalehdaeekkfiaa
