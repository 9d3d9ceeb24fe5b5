/-
  The plain law of a stable sort: blocks that grow.
-/
import Derived.Test.YtmagpbbjjkmbpaaHistLaw
namespace Go.Proofs.Ytmagpbbjjkmbpaa
open Go.Sort
set_option linter.unusedVariables false

section
variable {α : Type} [Inhabited α] (st rk : α → Int)
/-- Within a block (R) they are in order; of two blocks the ranks rise. -/
def Bk (R : Nat → Nat → Prop) (d : Array α) (n : Nat) : Prop := ∀ i j, i < j → j < n → (R i j → TL st rk d[i]! d[j]!) ∧ (¬ R i j → rk d[i]! < rk d[j]!)
variable {st rk}
theorem Bk.congr {R R' : Nat → Nat → Prop} {d : Array α} {n : Nat} (h : Bk st rk R d n) (hr : ∀ i j, i < j → j < n → (R i j ↔ R' i j)) : Bk st rk R' d n := fun i j h1 h2 => by
  have := h i j h1 h2
  rw [hr i j h1 h2] at this; exact this
theorem Bk.ord {R : Nat → Nat → Prop} {d : Array α} {n : Nat} (h : Bk st rk R d n) {a b : Nat} (hb : b ≤ n) (hr : ∀ i j, a ≤ i → i < j → j < b → R i j) : Ord st rk d a b := fun i j h1 h2 h3 => (h i j h2 (by omega)).1 (hr i j h1 h2 h3)
theorem Bk.rka {R : Nat → Nat → Prop} {d : Array α} {n : Nat} (h : Bk st rk R d n) {a b : Nat} (hb : b ≤ n) (hr : ∀ i j, a ≤ i → i < j → j < b → ¬ R i j) : RkA rk d a b := fun i j h1 h2 h3 => (h i j h2 (by omega)).2 (hr i j h1 h2 h3)
theorem Bk.lohi {R : Nat → Nat → Prop} {d : Array α} {n : Nat} (h : Bk st rk R d n) {a m b : Nat} (hb : b ≤ n) (hr : ∀ i j, a ≤ i → i < m → m ≤ j → j < b → ¬ R i j) : LoHi rk d a m b := fun i j h1 h2 h3 h4 => (h i j (by omega) (by omega)).2 (hr i j h1 h2 h3 h4)
/-- A range is made one block. -/
theorem Bk.join {R : Nat → Nat → Prop} {d d' : Array α} {n a b : Nat} (h : Bk st rk R d n) (hb : b ≤ n) (hn : n ≤ d.size) (hp : PermIn a b d d') (ho : Ord st rk d' a b)
    (h1 : ∀ i j, i < a → a ≤ j → j < b → ¬ R i j) (h2 : ∀ i j, a ≤ i → i < b → b ≤ j → j < n → ¬ R i j) : Bk st rk (fun i j => (a ≤ i ∧ j < b) ∨ R i j) d' n := by
  intro i j hij hj
  have outE : ∀ k, (k < a ∨ b ≤ k) → d'[k]! = d[k]! := fun k hk => hp.2.1 k hk
  by_cases hi1 : i < a
  · by_cases hj1 : j < b
    · by_cases hj2 : j < a
      · rw [outE i (.inl hi1), outE j (.inl hj2)]
        have := h i j hij hj
        refine ⟨fun hr => this.1 (by rcases hr with hr | hr; omega; exact hr), fun hr => this.2 fun c => hr (.inr c)⟩
      · refine ⟨fun hr => absurd hr ?_, fun _ => ?_⟩
        · rintro (hr | hr)
          · omega
          · exact h1 i j hi1 (by omega) hj1 hr
        · rw [outE i (.inl hi1)]
          exact perm_all (fun y => rk d[i]! < rk y) (by omega) hp (fun k k1 k2 => (h i k (by omega) (by omega)).2 (h1 i k hi1 k1 k2)) j (by omega) hj1
    · rw [outE i (.inl hi1), outE j (.inr (by omega))]
      have := h i j hij hj
      refine ⟨fun hr => this.1 (by rcases hr with hr | hr; omega; exact hr), fun hr => this.2 fun c => hr (.inr c)⟩
  · by_cases hi2 : i < b
    · by_cases hj1 : j < b
      · exact ⟨fun _ => ho i j (by omega) hij hj1, fun hr => absurd (.inl ⟨by omega, hj1⟩) hr⟩
      · refine ⟨fun hr => absurd hr ?_, fun _ => ?_⟩
        · rintro (hr | hr)
          · omega
          · exact h2 i j (by omega) hi2 (by omega) hj hr
        · rw [outE j (.inr (by omega))]
          exact perm_all (fun y => rk y < rk d[j]!) (by omega) hp (fun k k1 k2 => (h k j (by omega) hj).2 (h2 k j k1 k2 (by omega) hj)) i (by omega) hi2
    · rw [outE i (.inr (by omega)), outE j (.inr (by omega))]
      have := h i j hij hj
      refine ⟨fun hr => this.1 (by rcases hr with hr | hr; omega; exact hr), fun hr => this.2 fun c => hr (.inr c)⟩
def R1 (a : Nat) (i j : Nat) : Prop := i / 20 = j / 20 ∧ j < a
def R2 (s a : Nat) (i j : Nat) : Prop := if j < a then i / (2 * s) = j / (2 * s) else i / s = j / s
def Is (s : Nat) : Prop := s = 20 ∨ s = 40 ∨ s = 80 ∨ s = 160
theorem bk_start {d : Array α} {n : Nat} (h : RkA rk d 0 n) : Bk st rk (R1 0) d n := fun i j h1 h2 => ⟨fun c => absurd c.2 (by omega), fun _ => h i j (by omega) h1 h2⟩
theorem bk_ins {d d' : Array α} {n k a b : Nat} (ha : a = 20 * k) (hb : b = a + 20 ∨ (b = n ∧ n < a + 20 ∧ a ≤ n)) (hbn : b ≤ n) (hn : n ≤ d.size) (h : Bk st rk (R1 a) d n) (hp : PermIn a b d d') (ho : Ord st rk d' a b) : Bk st rk (R1 (a + 20)) d' n := by
  refine (h.join hbn hn hp ho (fun i j h1 h2 h3 c => ?_) (fun i j h1 h2 h3 h4 c => ?_)).congr fun i j h1 h2 => ?_
  · unfold R1 at c; omega
  · unfold R1 at c; omega
  · unfold R1; omega
theorem bk_rka {d : Array α} {n k a b : Nat} (ha : a = 20 * k) (hbn : b ≤ n) (h : Bk st rk (R1 a) d n) : RkA rk d a b := h.rka hbn fun i j h1 h2 h3 c => by unfold R1 at c; omega
theorem bk_two {d : Array α} {n a : Nat} (ha : n ≤ a) (h : Bk st rk (R1 a) d n) : Bk st rk (R2 20 0) d n := h.congr fun i j h1 h2 => by unfold R1 R2; rw [if_neg (by omega)]; omega
theorem bk_pair {s : Nat} {d : Array α} {n k a m b : Nat} (hs : Is s) (ha : a = 2 * s * k) (hm : m = a + s) (hb : b ≤ a + 2 * s) (hbn : b ≤ n) (hmb : m < b) (h : Bk st rk (R2 s a) d n) : Ord st rk d a m ∧ Ord st rk d m b ∧ LoHi rk d a m b := by
  refine ⟨h.ord (by omega) fun i j h1 h2 h3 => ?_, h.ord hbn fun i j h1 h2 h3 => ?_, h.lohi hbn fun i j h1 h2 h3 h4 c => ?_⟩
  · unfold R2; rw [if_neg (by omega)]; rcases hs with rfl | rfl | rfl | rfl <;> omega
  · unfold R2; rw [if_neg (by omega)]; rcases hs with rfl | rfl | rfl | rfl <;> omega
  · unfold R2 at c; rw [if_neg (by omega)] at c; rcases hs with rfl | rfl | rfl | rfl <;> omega
theorem bk_merge {s : Nat} {d d' : Array α} {n k a m b : Nat} (hs : Is s) (ha : a = 2 * s * k) (hb : b = a + 2 * s ∨ (b = n ∧ n ≤ a + 2 * s ∧ a ≤ n)) (hbn : b ≤ n) (hn : n ≤ d.size) (h : Bk st rk (R2 s a) d n) (hp : PermIn a b d d') (ho : Ord st rk d' a b) : Bk st rk (R2 s (a + 2 * s)) d' n := by
  refine (h.join hbn hn hp ho (fun i j h1 h2 h3 c => ?_) (fun i j h1 h2 h3 h4 c => ?_)).congr fun i j h1 h2 => ?_
  · unfold R2 at c; rw [if_neg (by omega)] at c; rcases hs with rfl | rfl | rfl | rfl <;> omega
  · unfold R2 at c; rw [if_neg (by omega)] at c; rcases hs with rfl | rfl | rfl | rfl <;> omega
  · unfold R2
    rcases hs with rfl | rfl | rfl | rfl <;> (split <;> split <;> omega)
/-- What is left of a row behind the last pair. -/
theorem bk_rest {s : Nat} {d : Array α} {n k a : Nat} (hs : Is s) (ha : a = 2 * s * k) (hb : n ≤ a + s) (h : Bk st rk (R2 s a) d n) : Bk st rk (R2 s (a + 2 * s)) d n := h.congr fun i j h1 h2 => by
  unfold R2
  rcases hs with rfl | rfl | rfl | rfl <;> (split <;> split <;> omega)
theorem bk_next {s : Nat} {d : Array α} {n a : Nat} (hs : Is s) (ha : n ≤ a) (h : Bk st rk (R2 s a) d n) : Bk st rk (R2 (2 * s) 0) d n := h.congr fun i j h1 h2 => by
  unfold R2; rw [if_pos (by omega), if_neg (by omega)]
theorem bk_end {s : Nat} {d : Array α} {n : Nat} (hs : n ≤ s) (h : Bk st rk (R2 s 0) d n) : Ord st rk d 0 n := h.ord (Nat.le_refl _) fun i j h1 h2 h3 => by
  unfold R2; rw [if_neg (by omega), Nat.div_eq_of_lt (by omega), Nat.div_eq_of_lt (by omega)]
/-- One element, put into what is in order behind it. -/
theorem one_left {d d' : Array α} {a m i b : Nat} (hm : m = a + 1) (hmi : m ≤ i) (hib : i ≤ b) (hb : b ≤ d.size) (h2 : Ord st rk d m b) (hl : LoHi rk d a m b) (hr : Rot d d' a m i)
    (c1 : ∀ k, m ≤ k → k < i → st d[k]! < st d[a]!) (c2 : ∀ k, i ≤ k → k < b → ¬ st d[k]! < st d[a]!) : PermIn a b d d' ∧ Ord st rk d' a b := by
  refine ⟨permIn_mono _ _ _ _ _ _ (Nat.le_refl _) hib hb hr.perm, fun x y x1 x2 x3 => ?_⟩
  have eB : ∀ k, a ≤ k → k + 1 < i → d'[k]! = d[k + 1]! := fun k k1 k2 => by rw [hr.lo k k1 (by omega)]; congr 1; omega
  have eA : d'[i - 1]! = d[a]! := by rw [hr.hi (i - 1) (by omega) (by omega)]; congr 1; omega
  have eD : ∀ k, i ≤ k → d'[k]! = d[k]! := fun k hk => hr.out (.inr hk)
  by_cases hx : x + 1 < i
  · rw [eB x x1 hx]
    by_cases hy : y + 1 < i
    · rw [eB y (by omega) hy]; exact h2 _ _ (by omega) (by omega) (by omega)
    · by_cases hy2 : y = i - 1
      · rw [hy2, eA]; exact .inl (c1 _ (by omega) (by omega))
      · rw [eD y (by omega)]; exact h2 _ _ (by omega) (by omega) x3
  · by_cases hx2 : x = i - 1
    · rw [hx2, eA, eD y (by omega)]
      exact TL.up (hl a y (Nat.le_refl _) (by omega) (by omega) x3) (c2 y (by omega) x3)
    · rw [eD x (by omega), eD y (by omega)]; exact h2 _ _ (by omega) x2 x3
theorem one_right {d d' : Array α} {a m i b : Nat} (hm : b = m + 1) (hai : a ≤ i) (him : i ≤ m) (hb : b ≤ d.size) (h1 : Ord st rk d a m) (hl : LoHi rk d a m b) (hr : Rot d d' i m b)
    (c1 : ∀ k, a ≤ k → k < i → ¬ st d[m]! < st d[k]!) (c2 : ∀ k, i ≤ k → k < m → st d[m]! < st d[k]!) : PermIn a b d d' ∧ Ord st rk d' a b := by
  refine ⟨permIn_mono _ _ _ _ _ _ hai (Nat.le_refl _) hb hr.perm, fun x y x1 x2 x3 => ?_⟩
  have eA : ∀ k, k < i → d'[k]! = d[k]! := fun k hk => hr.out (.inl hk)
  have eB : d'[i]! = d[m]! := by rw [hr.lo i (by omega) (by omega)]; congr 1; omega
  have eC : ∀ k, i < k → k < b → d'[k]! = d[k - 1]! := fun k k1 k2 => by rw [hr.hi k (by omega) k2]; congr 1; omega
  by_cases hx : x < i
  · rw [eA x hx]
    by_cases hy : y < i
    · rw [eA y hy]; exact h1 _ _ x1 x2 (by omega)
    · by_cases hy2 : y = i
      · rw [hy2, eB]; exact TL.up (hl x m x1 (by omega) (by omega) (by omega)) (c1 x x1 hx)
      · rw [eC y (by omega) x3]; exact h1 _ _ x1 (by omega) (by omega)
  · by_cases hx2 : x = i
    · rw [hx2, eB, eC y (by omega) x3]; exact .inl (c2 _ (by omega) (by omega))
    · rw [eC x (by omega) (by omega), eC y (by omega) x3]; exact h1 _ _ (by omega) (by omega) (by omega)
/-- A block moved by one exchange after the other. -/
theorem Rot.stepR {d d' : Array α} {a k : Nat} (hk : a ≤ k) (hs : k + 1 < d.size) (h : Rot d d' a (a + 1) (k + 1)) : Rot d (swp d' k (k + 1)) a (a + 1) (k + 2) := by
  have hsz : d'.size = d.size := h.perm.1
  have g := swp_get d' (i := k) (j := k + 1) (by omega) (by omega)
  have e1 : d'[k]! = d[a]! := by rw [h.hi k (by omega) (by omega)]; congr 1; omega
  have e2 : d'[k + 1]! = d[k + 1]! := h.out (.inr (by omega))
  refine ⟨permIn_trans _ _ _ _ _ (permIn_mono _ _ _ _ _ _ (Nat.le_refl _) (by omega) (by omega) h.perm) (swp_permIn _ _ _ _ _ (by omega) (by omega) (by omega) (by omega) (by omega)), fun q q1 q2 => ?_, fun q q1 q2 => ?_⟩
  · rw [g]
    by_cases hq : q = k
    · rw [if_neg (by omega), if_pos hq, e2]; congr 1; omega
    · rw [if_neg (by omega), if_neg hq, h.lo q q1 (by omega)]
  · obtain rfl : q = k + 1 := by omega
    rw [g, if_pos rfl, e1]; congr 1; omega
theorem Rot.stepL {d d' : Array α} {m k : Nat} (hk : k < m) (hs : m < d.size) (h : Rot d d' (k + 1) m (m + 1)) : Rot d (swp d' (k + 1) k) k m (m + 1) := by
  have hsz : d'.size = d.size := h.perm.1
  have g := swp_get d' (i := k + 1) (j := k) (by omega) (by omega)
  have e1 : d'[k + 1]! = d[m]! := by rw [h.lo (k + 1) (by omega) (by omega)]; congr 1; omega
  have e2 : d'[k]! = d[k]! := h.out (.inl (by omega))
  refine ⟨permIn_trans _ _ _ _ _ (permIn_mono _ _ _ _ _ _ (by omega) (Nat.le_refl _) (by omega) h.perm) (swp_permIn _ _ _ _ _ (by omega) (by omega) (by omega) (by omega) (by omega)), fun q q1 q2 => ?_, fun q q1 q2 => ?_⟩
  · obtain rfl : q = k := by omega
    rw [g, if_pos rfl, e1]; congr 1; omega
  · rw [g]
    by_cases hq : q = k + 1
    · rw [if_neg (by omega), if_pos hq, e2]; congr 1; omega
    · rw [if_neg (by omega), if_neg hq, h.hi q (by omega) q2]
end
end Go.Proofs.Ytmagpbbjjkmbpaa
