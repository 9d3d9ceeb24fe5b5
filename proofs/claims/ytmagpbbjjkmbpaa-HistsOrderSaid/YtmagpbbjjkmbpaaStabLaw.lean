/-
  The plain law of a stable sort: merging by rotation, under a total order.
-/
import Derived.Sort.LotA
namespace Go.Proofs.Ytmagpbbjjkmbpaa
open Go.Sort
set_option linter.unusedVariables false

section
variable {α : Type} [Inhabited α] (st rk : α → Int)
/-- The total order: by step, then by rank. -/
def TL (x y : α) : Prop := st x < st y ∨ (st x = st y ∧ rk x < rk y)
variable {st rk}
omit [Inhabited α] in
theorem TL.trans {x y z : α} (h : TL st rk x y) (k : TL st rk y z) : TL st rk x z := by unfold TL at *; omega
omit [Inhabited α] in
theorem TL.of_lt {x y : α} (h : st x < st y) : TL st rk x y := .inl h
omit [Inhabited α] in
/-- Two whose ranks rise: the elder one goes first just if the other's step is not less. -/
theorem TL.up {x y : α} (hr : rk x < rk y) (h : ¬ st y < st x) : TL st rk x y := by unfold TL; omega
variable (st rk)
def Ord (d : Array α) (a b : Nat) : Prop := ∀ i j, a ≤ i → i < j → j < b → TL st rk d[i]! d[j]!
def LoHi (d : Array α) (a m b : Nat) : Prop := ∀ i j, a ≤ i → i < m → m ≤ j → j < b → rk d[i]! < rk d[j]!
def Crs (d : Array α) (a m b : Nat) : Prop := ∀ i j, a ≤ i → i < m → m ≤ j → j < b → TL st rk d[i]! d[j]!
variable {st rk}
/-- Blocks exchanged: what lay in [a, m) lies behind what lay in [m, b). -/
structure Rot (d d' : Array α) (a m b : Nat) : Prop where
  perm : PermIn a b d d'
  lo : ∀ k, a ≤ k → k + m < a + b → d'[k]! = d[k + m - a]!
  hi : ∀ k, a + b ≤ k + m → k < b → d'[k]! = d[k + m - b]!
theorem Rot.out {d d' : Array α} {a m b k : Nat} (h : Rot d d' a m b) (hk : k < a ∨ b ≤ k) : d'[k]! = d[k]! := h.perm.2.1 k hk
theorem Rot.idL (d : Array α) (a b : Nat) : Rot d d a a b := ⟨permIn_refl _ _ _, fun k h1 h2 => by rw [show k + a - a = k by omega], fun k h1 h2 => by omega⟩
theorem Rot.idR (d : Array α) (a b : Nat) : Rot d d a b b := ⟨permIn_refl _ _ _, fun k h1 h2 => by omega, fun k h1 h2 => by rw [show k + b - b = k by omega]⟩
/-- Two ranges of n exchanged. -/
structure Swr (d d' : Array α) (a b n : Nat) : Prop where
  perm : PermIn a (b + n) d d'
  lo : ∀ k, a ≤ k → k < a + n → d'[k]! = d[k + b - a]!
  hi : ∀ k, b ≤ k → k < b + n → d'[k]! = d[k + a - b]!
  mid : ∀ k, (k < a ∨ (a + n ≤ k ∧ k < b) ∨ b + n ≤ k) → d'[k]! = d[k]!
theorem Swr.zero (d : Array α) (a b : Nat) (h : a ≤ b) : Swr d d a b 0 := ⟨permIn_refl _ _ _, fun k h1 h2 => by omega, fun k h1 h2 => by omega, fun k _ => rfl⟩
theorem Swr.next {d d' : Array α} {a b n : Nat} (h : Swr d d' a b n) (hab : a + n < b) (hb : b + n < d.size) : Swr d (swp d' (a + n) (b + n)) a b (n + 1) := by
  have hs : d'.size = d.size := h.perm.1
  have g := swp_get d' (i := a + n) (j := b + n) (by omega) (by omega)
  refine ⟨permIn_trans _ _ _ _ _ (permIn_mono _ _ _ _ _ _ (Nat.le_refl _) (by omega) (by omega) h.perm) (swp_permIn _ _ _ _ _ (by omega) (by omega) (by omega) (by omega) (by omega)), fun k h1 h2 => ?_, fun k h1 h2 => ?_, fun k h1 => ?_⟩
  · rw [g, if_neg (by omega)]
    by_cases hk : k = a + n
    · rw [if_pos hk, h.mid _ (by omega), hk]; congr 1; omega
    · rw [if_neg hk, h.lo k h1 (by omega)]
  · rw [g]
    by_cases hk : k = b + n
    · rw [if_pos hk, h.mid _ (by omega), hk]; congr 1; omega
    · rw [if_neg hk, if_neg (by omega), h.hi k h1 (by omega)]
  · rw [g, if_neg (by omega), if_neg (by omega), h.mid k (by omega)]
/-- A rotation's first part: the longer block is on the left. -/
theorem Rot.left {d e f : Array α} {m i j : Nat} (hs : Swr d e (m - i) m j) (hij : j ≤ i) (him : i ≤ m) (hb : m + j ≤ d.size) (h : Rot e f (m - (i - j)) m (m + j)) : Rot d f (m - i) m (m + j) := by
  refine ⟨permIn_trans _ _ _ _ _ hs.perm (permIn_mono _ _ _ _ _ _ (by omega) (Nat.le_refl _) (by rw [hs.perm.1]; exact hb) h.perm), fun k h1 h2 => ?_, fun k h1 h2 => ?_⟩
  · rw [h.out (.inl (by omega)), hs.lo k h1 (by omega)]
  · by_cases hk : k + m < m - (i - j) + (m + j)
    · rw [h.lo k (by omega) hk, show k + m - (m - (i - j)) = k + (i - j) by omega]
      by_cases hq : k + (i - j) < m
      · omega
      · rw [hs.hi _ (by omega) (by omega)]; congr 1; omega
    · rw [h.hi k (by omega) h2, hs.mid _ (by omega)]
theorem Rot.right {d e f : Array α} {m i j : Nat} (hs : Swr d e (m - i) (m + j - i) i) (hij : i ≤ j) (him : i ≤ m) (hb : m + j ≤ d.size) (h : Rot e f (m - i) m (m + (j - i))) : Rot d f (m - i) m (m + j) := by
  refine ⟨permIn_trans _ _ _ _ _ (permIn_mono _ _ _ _ _ _ (Nat.le_refl _) (by omega) (by omega) hs.perm) (permIn_mono _ _ _ _ _ _ (Nat.le_refl _) (by omega) (by rw [hs.perm.1]; exact hb) h.perm), fun k h1 h2 => ?_, fun k h1 h2 => ?_⟩
  · by_cases hk : k + m < m - i + (m + (j - i))
    · rw [h.lo k h1 hk, hs.mid _ (by omega)]
    · by_cases hk2 : k < m + (j - i)
      · rw [h.hi k (by omega) hk2, hs.lo _ (by omega) (by omega)]; congr 1; omega
      · omega
  · rw [h.out (.inr (by omega)), hs.hi k (by omega) (by omega)]; congr 1; omega
theorem Rot.same {d e : Array α} {m i : Nat} (hs : Swr d e (m - i) m i) (him : i ≤ m) : Rot d e (m - i) m (m + i) :=
  ⟨hs.perm, fun k h1 h2 => by rw [hs.lo k h1 (by omega)], fun k h1 h2 => by rw [hs.hi k (by omega) h2]; congr 1; omega⟩
/-- Where a merge parts: behind the rotation both halves are to be merged, and stand apart. -/
structure Cutm (st rk : α → Int) (d : Array α) (a s m b : Nat) : Prop where
  lo : Ord st rk d a s
  hi : Ord st rk d s b
theorem perm_all {d d' : Array α} {a b : Nat} (p : α → Prop) (hb : b ≤ d.size) (h : PermIn a b d d') (hp : ∀ i, a ≤ i → i < b → p d[i]!) : ∀ i, a ≤ i → i < b → p d'[i]! := permIn_all d d' a b p hb h hp
/-- What a rotation leaves: the four parts, and what stands across. -/
theorem rot_parts {d d' : Array α} {a s m e b : Nat} (h : Rot d d' s m e) (has : a ≤ s) (hsm : s ≤ m) (hme : m ≤ e) (heb : e ≤ b) (hb : b ≤ d.size) (h1 : Ord st rk d a m) (h2 : Ord st rk d m b) (hl : LoHi rk d a m b)
    (c1 : s = a ∨ e = b ∨ TL st rk d[s - 1]! d[e]!) (c2 : s = m ∨ e = m ∨ TL st rk d[e - 1]! d[s]!) :
    Ord st rk d' a s ∧ Ord st rk d' s (s + e - m) ∧ Ord st rk d' (s + e - m) e ∧ Ord st rk d' e b ∧ LoHi rk d' a s (s + e - m) ∧ LoHi rk d' (s + e - m) e b ∧ Crs st rk d' a (s + e - m) b := by
  obtain ⟨x, hx⟩ : ∃ x, x = s + e - m := ⟨_, rfl⟩
  rw [← hx]
  have hx1 : s ≤ x ∧ x ≤ e := by omega
  have eA : ∀ k, k < s → d'[k]! = d[k]! := fun k hk => h.out (.inl hk)
  have eB : ∀ k, s ≤ k → k < x → d'[k]! = d[k + m - s]! := fun k h1 h2 => h.lo k h1 (by omega)
  have eC : ∀ k, x ≤ k → k < e → d'[k]! = d[k + m - e]! := fun k h1 h2 => h.hi k (by omega) h2
  have eD : ∀ k, e ≤ k → d'[k]! = d[k]! := fun k hk => h.out (.inr hk)
  have T12 : ∀ i, a ≤ i → i < s → ∀ j, e ≤ j → j < b → TL st rk d[i]! d[j]! := fun i hi1 hi2 j hj1 hj2 => by
    rcases c1 with c | c | c
    · omega
    · omega
    · have t1 : i = s - 1 ∨ TL st rk d[i]! d[s - 1]! := by
        by_cases hh : i = s - 1
        · exact .inl hh
        · exact .inr (h1 i (s - 1) hi1 (by omega) (by omega))
      have t2 : e = j ∨ TL st rk d[e]! d[j]! := by
        by_cases hh : e = j
        · exact .inl hh
        · exact .inr (h2 e j (by omega) (by omega) hj2)
      have t3 : TL st rk d[i]! d[e]! := by
        rcases t1 with t1 | t1
        · rw [t1]; exact c
        · exact t1.trans c
      rcases t2 with t2 | t2
      · rw [← t2]; exact t3
      · exact t3.trans t2
  have T21 : ∀ j, m ≤ j → j < e → ∀ i, s ≤ i → i < m → TL st rk d[j]! d[i]! := fun j hj1 hj2 i hi1 hi2 => by
    rcases c2 with c | c | c
    · omega
    · omega
    · have t1 : j = e - 1 ∨ TL st rk d[j]! d[e - 1]! := by
        by_cases hh : j = e - 1
        · exact .inl hh
        · exact .inr (h2 j (e - 1) hj1 (by omega) (by omega))
      have t2 : s = i ∨ TL st rk d[s]! d[i]! := by
        by_cases hh : s = i
        · exact .inl hh
        · exact .inr (h1 s i (by omega) (by omega) hi2)
      have t3 : TL st rk d[j]! d[s]! := by
        rcases t1 with t1 | t1
        · rw [t1]; exact c
        · exact t1.trans c
      rcases t2 with t2 | t2
      · rw [← t2]; exact t3
      · exact t3.trans t2
  refine ⟨?_, ?_, ?_, ?_, ?_, ?_, ?_⟩
  · intro i j i1 i2 i3
    rw [eA i (by omega), eA j i3]; exact h1 i j i1 i2 (by omega)
  · intro i j i1 i2 i3
    rw [eB i i1 (by omega), eB j (by omega) i3]; exact h2 _ _ (by omega) (by omega) (by omega)
  · intro i j i1 i2 i3
    rw [eC i i1 (by omega), eC j (by omega) i3]; exact h1 _ _ (by omega) (by omega) (by omega)
  · intro i j i1 i2 i3
    rw [eD i i1, eD j (by omega)]; exact h2 i j (by omega) i2 i3
  · intro i j i1 i2 i3 i4
    rw [eA i i2, eB j i3 i4]; exact hl _ _ i1 (by omega) (by omega) (by omega)
  · intro i j i1 i2 i3 i4
    rw [eC i i1 i2, eD j i3]; exact hl _ _ (by omega) (by omega) (by omega) i4
  · intro i j i1 i2 i3 i4
    by_cases hi : i < s
    · by_cases hj : j < e
      · rw [eA i hi, eC j i3 hj]
        exact h1 i _ i1 (by omega) (by omega)
      · rw [eA i hi, eD j (by omega)]
        exact T12 i i1 hi j (by omega) i4
    · by_cases hj : j < e
      · rw [eB i (by omega) i2, eC j i3 hj]
        exact T21 _ (by omega) (by omega) _ (by omega) (by omega)
      · rw [eB i (by omega) i2, eD j (by omega)]
        exact h2 _ _ (by omega) (by omega) i4
/-- Both halves merged: the whole is. -/
theorem ord_join {d : Array α} {a x b : Nat} (h1 : Ord st rk d a x) (h2 : Ord st rk d x b) (hc : Crs st rk d a x b) : Ord st rk d a b := by
  intro i j i1 i2 i3
  by_cases hi : j < x
  · exact h1 i j i1 i2 hi
  · by_cases hj : i < x
    · exact hc i j i1 hj (by omega) i3
    · exact h2 i j (by omega) i2 i3
theorem crs_left {d d' : Array α} {a x b : Nat} (hp : PermIn a x d d') (hx : x ≤ d.size) (hc : Crs st rk d a x b) : Crs st rk d' a x b := by
  intro i j i1 i2 i3 i4
  rw [hp.2.1 j (.inr i3)]
  exact perm_all (fun y => TL st rk y d[j]!) hx hp (fun k k1 k2 => hc k j k1 k2 i3 i4) i i1 i2
theorem crs_right {d d' : Array α} {a x b : Nat} (hp : PermIn x b d d') (hb : b ≤ d.size) (hc : Crs st rk d a x b) : Crs st rk d' a x b := by
  intro i j i1 i2 i3 i4
  rw [hp.2.1 i (.inl i2)]
  exact perm_all (fun y => TL st rk d[i]! y) hb hp (fun k k1 k2 => hc i k i1 i2 k1 k2) j i3 i4
theorem ord_out {d d' : Array α} {a b x y : Nat} (hp : PermIn x y d d') (ho : b ≤ x ∨ y ≤ a) (h : Ord st rk d a b) : Ord st rk d' a b := by
  intro i j i1 i2 i3
  rw [hp.2.1 i (by omega), hp.2.1 j (by omega)]; exact h i j i1 i2 i3
theorem lohi_out {d d' : Array α} {a m b x y : Nat} (hp : PermIn x y d d') (ho : b ≤ x ∨ y ≤ a) (h : LoHi rk d a m b) : LoHi rk d' a m b := by
  intro i j i1 i2 i3 i4
  rw [hp.2.1 i (by omega), hp.2.1 j (by omega)]; exact h i j i1 i2 i3 i4
end
section
variable {α : Type} [Inhabited α] (st rk : α → Int)
def bst (x y : α) : Bool := decide (st x < st y)
def btl (x y : α) : Bool := decide (st x < st y ∨ (st x = st y ∧ rk x < rk y))
variable {st rk}
omit [Inhabited α] in
theorem btl_swo : SWO (btl st rk) := ⟨fun x => by simp [btl], fun x y z h1 h2 => by simp only [btl, decide_eq_true_eq] at *; omega, fun x y z h1 h2 => by simp only [btl, decide_eq_false_iff_not] at *; omega⟩
omit [Inhabited α] in
theorem btl_up {x y : α} (h : rk x < rk y) : bst st y x = btl st rk y x := by unfold bst btl; rw [decide_eq_decide]; omega
theorem insInner_same (a : Nat) : ∀ (j : Nat) (d : Array α), j < d.size → (∀ k, a ≤ k → k < j → rk d[k]! < rk d[j]!) → insInner (bst st) a j d = insInner (btl st rk) a j d
  | 0, d, _, _ => rfl
  | j + 1, d, hj, h => by
    unfold insInner
    by_cases ha : a < j + 1
    · rw [btl_up (h j (by omega) (by omega))]
      split
      · have g := swp_get d hj (show j < d.size by omega)
        exact insInner_same a j (swp d (j + 1) j) (by rw [swp_size]; omega) fun k k1 k2 => by
          rw [g, g, if_neg (by omega), if_neg (by omega), if_pos rfl]; exact h k k1 (by omega)
      · rfl
    · simp [ha]
theorem insInner_perm (lt : α → α → Bool) (a b : Nat) : ∀ (j : Nat) (d : Array α), a ≤ j → j < b → b ≤ d.size → PermIn a b d (insInner lt a j d)
  | 0, d, _, _, _ => permIn_refl _ _ _
  | j + 1, d, h1, h2, h3 => by
    unfold insInner
    split
    · rename_i hc
      simp only [Bool.and_eq_true, decide_eq_true_eq] at hc
      exact permIn_trans _ _ _ _ _ (swp_permIn _ _ _ _ _ (by omega) (by omega) (by omega) (by omega) h3) (insInner_perm lt a b j _ (by omega) (by omega) (by rw [swp_size]; exact h3))
    · exact permIn_refl _ _ _
theorem insOuter_same (a b : Nat) : ∀ (n i : Nat) (d : Array α), b - i = n → a ≤ i → b ≤ d.size → LoHi rk d a i b → (∀ k j, i ≤ k → k < j → j < b → rk d[k]! < rk d[j]!) → insOuter (bst st) a b i d = insOuter (btl st rk) a b i d
  | 0, i, d, hn, hi, hb, h1, h2 => by
    have e : ∀ lt : α → α → Bool, insOuter lt a b i d = d := fun lt => by rw [insOuter, if_neg (by omega)]
    rw [e, e]
  | n + 1, i, d, hn, hi, hb, h1, h2 => by
    have hlt : i < b := by omega
    have eu : ∀ lt : α → α → Bool, insOuter lt a b i d = insOuter lt a b (i + 1) (insInner lt a i d) := fun lt => by rw [insOuter, if_pos hlt]
    rw [eu, eu]
    have e := insInner_same (st := st) (rk := rk) a i d (by omega) fun k k1 k2 => h1 k i k1 k2 (Nat.le_refl _) hlt
    have hp := insInner_perm (bst st) a (i + 1) i d hi (by omega) (by omega)
    rw [← e]
    refine insOuter_same a b n (i + 1) _ (by omega) (by omega) (by rw [hp.1]; exact hb) (fun k j k1 k2 j1 j2 => ?_) (fun k j k1 k2 j2 => ?_)
    · rw [hp.2.1 j (.inr j1)]
      refine perm_all (fun y => rk y < rk d[j]!) (by omega) hp (fun q q1 q2 => ?_) k k1 k2
      by_cases hq : q = i
      · rw [hq]; exact h2 i j (Nat.le_refl _) (by omega) j2
      · exact h1 q j q1 (by omega) (by omega) j2
    · rw [hp.2.1 j (.inr (by omega)), hp.2.1 k (.inr k1)]
      exact h2 k j (by omega) k2 j2
/-- Ranks rise. -/
def RkA (rk : α → Int) (d : Array α) (a b : Nat) : Prop := ∀ i j, a ≤ i → i < j → j < b → rk d[i]! < rk d[j]!
def Dst (rk : α → Int) (d : Array α) (a b : Nat) : Prop := ∀ i j, a ≤ i → i < j → j < b → rk d[i]! ≠ rk d[j]!
theorem dst_iff (d : Array α) (a b : Nat) (hb : b ≤ d.size) : Dst rk d a b ↔ (((d.extract a b).toList).map rk).Nodup := by
  rw [extract_toList d a b hb, List.map_map, List.nodup_iff_pairwise_ne, List.pairwise_map]
  constructor
  · intro h
    refine (List.pairwise_lt_range').imp_of_mem ?_
    intro x y hx hy hxy
    have hx1 := List.mem_range'_1.1 hx
    have hy1 := List.mem_range'_1.1 hy
    exact h x y hx1.1 hxy (by omega)
  · intro h i j h1 h2 h3
    have := List.pairwise_iff_getElem.1 h (i - a) (j - a) (by simp; omega) (by simp; omega) (by omega)
    simp only [List.getElem_range', Function.comp] at this
    rw [show a + 1 * (i - a) = i by omega, show a + 1 * (j - a) = j by omega] at this
    exact this
theorem Dst.perm {d d' : Array α} {a b : Nat} (h : Dst rk d a b) (hb : b ≤ d.size) (hp : PermIn a b d d') : Dst rk d' a b := by
  rw [dst_iff _ _ _ hb] at h
  rw [dst_iff _ _ _ (by rw [hp.1]; exact hb)]
  exact (hp.2.2.map rk).nodup_iff.2 h
theorem ord_of {d : Array α} {a b : Nat} (h : SortedIn (btl st rk) a b d) (hd : Dst rk d a b) : Ord st rk d a b := by
  intro i j i1 i2 i3
  have h1 := h i j i1 i2 i3
  have h2 := hd i j i1 i2 i3
  simp only [btl, decide_eq_false_iff_not] at h1
  unfold TL; omega
/-- What the insertion sort leaves, by steps alone, of elements whose ranks rise. -/
theorem ins_stable {d : Array α} {a b : Nat} (hab : a ≤ b) (hb : b ≤ d.size) (h : RkA rk d a b) : PermIn a b d (insertionSort (bst st) d a b) ∧ Ord st rk (insertionSort (bst st) d a b) a b := by
  have e : insertionSort (bst st) d a b = insertionSort (btl st rk) d a b := by
    unfold insertionSort
    exact insOuter_same a b _ (a + 1) d rfl (by omega) hb (fun i j i1 i2 i3 i4 => h i j i1 (by omega) i4) (fun i j i1 i2 i3 => h i j (by omega) i2 i3)
  rw [e]
  have hs := insertionSort_holds (lt := btl st rk) btl_swo d a b hab hb
  have hd : Dst rk d a b := fun i j h1 h2 h3 => Int.ne_of_lt (h i j h1 h2 h3)
  exact ⟨hs.1, ord_of hs.2 (hd.perm hb hs.1)⟩
theorem insOuter_perm (lt : α → α → Bool) (a b : Nat) : ∀ (n i : Nat) (d : Array α), b - i = n → a ≤ i → b ≤ d.size → PermIn a b d (insOuter lt a b i d)
  | 0, i, d, hn, hi, hb => by rw [insOuter, if_neg (by omega)]; exact permIn_refl _ _ _
  | n + 1, i, d, hn, hi, hb => by
    rw [insOuter, if_pos (by omega)]
    have h1 := insInner_perm lt a b i d hi (by omega) hb
    exact permIn_trans _ _ _ _ _ h1 (insOuter_perm lt a b n (i + 1) _ (by omega) (by omega) (by rw [h1.1]; exact hb))
theorem insertionSort_perm (lt : α → α → Bool) (d : Array α) (a b : Nat) (hab : a ≤ b) (hb : b ≤ d.size) : PermIn a b d (insertionSort lt d a b) := insOuter_perm lt a b _ (a + 1) d rfl (by omega) hb
end
end Go.Proofs.Ytmagpbbjjkmbpaa
