/-
  Texts of this prover, merged: InsLay, StabLaw, HistLaw, StabBlk, StabSym, StabDo, StabMrg, StabSrt, StabAll, HRows, HistRow, HistOrd, HistDo, HistGrt, MapI64, HistWell, HistLives.
-/
import Derived.Test.YtdbgfidnccpmdaaGreatRows
import Derived.Test.YtdbgfidnccpmdaaGreatLib
import Derived.Test.YtdbgfidnccpmdaaGreatOpen
import Derived.Test.YtdbgfidnccpmdaaGreatKeeps
import Derived.Test.YtdbgfidnccpmdaaGreatP1
import Derived.Test.YtdbgfidnccpmdaaGreatMapPtr
import Derived.Shelf.SlSortCmp.InsertionK
import Derived.Sort.LotA
import Derived.Shelf.SlSortCmp.KitK
import Derived.Deep.DeepCutAuto
import Derived.Deep.CutBlock
import Derived.Deep.MidRow
import Derived.Deep.WholeRow
import Derived.Laws.EntriesVeiled
import Derived.Deep.AppendLies
import Derived.Maps.Own
import Derived.Maps.RangeWalk
/-
  DERIVED: THE SHELF's CONTRACTS AT THIS DUMP, IN PLAIN WORDS (tools/lay-plain.mjs out of 'YtdbgfidnccpmdaaGreatInsSrc.lean', which tools/lay-shelf.mjs wrote): THE SAME DECLARATIONS UNDER THE SAME NAMES: 'import', 'namespace', 'open', 'def', 'theorem' AND NOTHING ELSE: no command of the shelf's: FOR A HAND-IN. Each laying: the table of numbers ('.._ren') and one theorem, a field a fact of the dump's own or the kernel's comparison; each contract: ONE APPLICATION.
-/
namespace Go.Proofs.YtdbgfidnccpmdaaGreat
open Go.Shelf
def insW_ren : Go.Shelf.Ren := ⟨fun | 20 => 247 | n => n, fun | 24 => 176 | 22 => 172 | 3 => 3 | 25 => 285 | 4 => 4 | 0 => 0 | n => n, fun | n => n⟩
theorem insW : Go.Proofs.SlLaysF0.n20 Tryz.prog insW_ren := {
  mixed := by kernel_rfl
  f20 := ⟨Tryz.f247.name, by decide, Tryz.func247.trans (congrArg some (by kernel_rfl))⟩
  t0 := Tryz.underlying0
  a0 := Tryz.isAgg0
  z0 := Tryz.sizeOf0
  v0 := Tryz.zeroValue0
  t3 := Tryz.underlying3
  a3 := Tryz.isAgg3
  z3 := Tryz.sizeOf3
  v3 := Tryz.zeroValue3
  t4 := Tryz.underlying4
  a4 := Tryz.isAgg4
  z4 := Tryz.sizeOf4
  v4 := Tryz.zeroValue4
  t22 := Tryz.underlying172
  a22 := Tryz.isAgg172
  z22 := Tryz.sizeOf172
  v22 := Tryz.zeroValue172
  t25 := Tryz.underlying285
  a25 := Tryz.isAgg285
  z25 := Tryz.sizeOf285
  v25 := Tryz.zeroValue285 }
end Go.Proofs.YtdbgfidnccpmdaaGreat

/-
  The plain law of a stable sort: merging by rotation, under a total order.
-/
namespace Go.Proofs.YtdbgfidnccpmdaaGreat
open Go.Sort
set_option linter.unusedVariables false

section
variable {α : Type} [Inhabited α] (st rk : α → Int)
/-- The total order: by step, then by rank. -/
def TL (x y : α) : Prop := st x < st y ∨ (st x = st y ∧ rk x < rk y)
variable {st rk}
omit [Inhabited α] in
theorem TL.trans {x y z : α} (h : TL st rk x y) (k : TL st rk y z) : TL st rk x z := by unfold TL at *; omega
omit [Inhabited α] in
theorem TL.of_lt {x y : α} (h : st x < st y) : TL st rk x y := .inl h
omit [Inhabited α] in
/-- Two whose ranks rise: the elder one goes first just if the other's step is not less. -/
theorem TL.up {x y : α} (hr : rk x < rk y) (h : ¬ st y < st x) : TL st rk x y := by unfold TL; omega
variable (st rk)
def Ord (d : Array α) (a b : Nat) : Prop := ∀ i j, a ≤ i → i < j → j < b → TL st rk d[i]! d[j]!
def LoHi (d : Array α) (a m b : Nat) : Prop := ∀ i j, a ≤ i → i < m → m ≤ j → j < b → rk d[i]! < rk d[j]!
def Crs (d : Array α) (a m b : Nat) : Prop := ∀ i j, a ≤ i → i < m → m ≤ j → j < b → TL st rk d[i]! d[j]!
variable {st rk}
/-- Blocks exchanged: what lay in [a, m) lies behind what lay in [m, b). -/
structure Rot (d d' : Array α) (a m b : Nat) : Prop where
  perm : PermIn a b d d'
  lo : ∀ k, a ≤ k → k + m < a + b → d'[k]! = d[k + m - a]!
  hi : ∀ k, a + b ≤ k + m → k < b → d'[k]! = d[k + m - b]!
theorem Rot.out {d d' : Array α} {a m b k : Nat} (h : Rot d d' a m b) (hk : k < a ∨ b ≤ k) : d'[k]! = d[k]! := h.perm.2.1 k hk
theorem Rot.idL (d : Array α) (a b : Nat) : Rot d d a a b := ⟨permIn_refl _ _ _, fun k h1 h2 => by rw [show k + a - a = k by omega], fun k h1 h2 => by omega⟩
theorem Rot.idR (d : Array α) (a b : Nat) : Rot d d a b b := ⟨permIn_refl _ _ _, fun k h1 h2 => by omega, fun k h1 h2 => by rw [show k + b - b = k by omega]⟩
/-- Two ranges of n exchanged. -/
structure Swr (d d' : Array α) (a b n : Nat) : Prop where
  perm : PermIn a (b + n) d d'
  lo : ∀ k, a ≤ k → k < a + n → d'[k]! = d[k + b - a]!
  hi : ∀ k, b ≤ k → k < b + n → d'[k]! = d[k + a - b]!
  mid : ∀ k, (k < a ∨ (a + n ≤ k ∧ k < b) ∨ b + n ≤ k) → d'[k]! = d[k]!
theorem Swr.zero (d : Array α) (a b : Nat) (h : a ≤ b) : Swr d d a b 0 := ⟨permIn_refl _ _ _, fun k h1 h2 => by omega, fun k h1 h2 => by omega, fun k _ => rfl⟩
theorem Swr.next {d d' : Array α} {a b n : Nat} (h : Swr d d' a b n) (hab : a + n < b) (hb : b + n < d.size) : Swr d (swp d' (a + n) (b + n)) a b (n + 1) := by
  have hs : d'.size = d.size := h.perm.1
  have g := swp_get d' (i := a + n) (j := b + n) (by omega) (by omega)
  refine ⟨permIn_trans _ _ _ _ _ (permIn_mono _ _ _ _ _ _ (Nat.le_refl _) (by omega) (by omega) h.perm) (swp_permIn _ _ _ _ _ (by omega) (by omega) (by omega) (by omega) (by omega)), fun k h1 h2 => ?_, fun k h1 h2 => ?_, fun k h1 => ?_⟩
  · rw [g, if_neg (by omega)]
    by_cases hk : k = a + n
    · rw [if_pos hk, h.mid _ (by omega), hk]; congr 1; omega
    · rw [if_neg hk, h.lo k h1 (by omega)]
  · rw [g]
    by_cases hk : k = b + n
    · rw [if_pos hk, h.mid _ (by omega), hk]; congr 1; omega
    · rw [if_neg hk, if_neg (by omega), h.hi k h1 (by omega)]
  · rw [g, if_neg (by omega), if_neg (by omega), h.mid k (by omega)]
/-- A rotation's first part: the longer block is on the left. -/
theorem Rot.left {d e f : Array α} {m i j : Nat} (hs : Swr d e (m - i) m j) (hij : j ≤ i) (him : i ≤ m) (hb : m + j ≤ d.size) (h : Rot e f (m - (i - j)) m (m + j)) : Rot d f (m - i) m (m + j) := by
  refine ⟨permIn_trans _ _ _ _ _ hs.perm (permIn_mono _ _ _ _ _ _ (by omega) (Nat.le_refl _) (by rw [hs.perm.1]; exact hb) h.perm), fun k h1 h2 => ?_, fun k h1 h2 => ?_⟩
  · rw [h.out (.inl (by omega)), hs.lo k h1 (by omega)]
  · by_cases hk : k + m < m - (i - j) + (m + j)
    · rw [h.lo k (by omega) hk, show k + m - (m - (i - j)) = k + (i - j) by omega]
      by_cases hq : k + (i - j) < m
      · omega
      · rw [hs.hi _ (by omega) (by omega)]; congr 1; omega
    · rw [h.hi k (by omega) h2, hs.mid _ (by omega)]
theorem Rot.right {d e f : Array α} {m i j : Nat} (hs : Swr d e (m - i) (m + j - i) i) (hij : i ≤ j) (him : i ≤ m) (hb : m + j ≤ d.size) (h : Rot e f (m - i) m (m + (j - i))) : Rot d f (m - i) m (m + j) := by
  refine ⟨permIn_trans _ _ _ _ _ (permIn_mono _ _ _ _ _ _ (Nat.le_refl _) (by omega) (by omega) hs.perm) (permIn_mono _ _ _ _ _ _ (Nat.le_refl _) (by omega) (by rw [hs.perm.1]; exact hb) h.perm), fun k h1 h2 => ?_, fun k h1 h2 => ?_⟩
  · by_cases hk : k + m < m - i + (m + (j - i))
    · rw [h.lo k h1 hk, hs.mid _ (by omega)]
    · by_cases hk2 : k < m + (j - i)
      · rw [h.hi k (by omega) hk2, hs.lo _ (by omega) (by omega)]; congr 1; omega
      · omega
  · rw [h.out (.inr (by omega)), hs.hi k (by omega) (by omega)]; congr 1; omega
theorem Rot.same {d e : Array α} {m i : Nat} (hs : Swr d e (m - i) m i) (him : i ≤ m) : Rot d e (m - i) m (m + i) :=
  ⟨hs.perm, fun k h1 h2 => by rw [hs.lo k h1 (by omega)], fun k h1 h2 => by rw [hs.hi k (by omega) h2]; congr 1; omega⟩
/-- Where a merge parts: behind the rotation both halves are to be merged, and stand apart. -/
structure Cutm (st rk : α → Int) (d : Array α) (a s m b : Nat) : Prop where
  lo : Ord st rk d a s
  hi : Ord st rk d s b
theorem perm_all {d d' : Array α} {a b : Nat} (p : α → Prop) (hb : b ≤ d.size) (h : PermIn a b d d') (hp : ∀ i, a ≤ i → i < b → p d[i]!) : ∀ i, a ≤ i → i < b → p d'[i]! := permIn_all d d' a b p hb h hp
/-- What a rotation leaves: the four parts, and what stands across. -/
theorem rot_parts {d d' : Array α} {a s m e b : Nat} (h : Rot d d' s m e) (has : a ≤ s) (hsm : s ≤ m) (hme : m ≤ e) (heb : e ≤ b) (hb : b ≤ d.size) (h1 : Ord st rk d a m) (h2 : Ord st rk d m b) (hl : LoHi rk d a m b)
    (c1 : s = a ∨ e = b ∨ TL st rk d[s - 1]! d[e]!) (c2 : s = m ∨ e = m ∨ TL st rk d[e - 1]! d[s]!) :
    Ord st rk d' a s ∧ Ord st rk d' s (s + e - m) ∧ Ord st rk d' (s + e - m) e ∧ Ord st rk d' e b ∧ LoHi rk d' a s (s + e - m) ∧ LoHi rk d' (s + e - m) e b ∧ Crs st rk d' a (s + e - m) b := by
  obtain ⟨x, hx⟩ : ∃ x, x = s + e - m := ⟨_, rfl⟩
  rw [← hx]
  have hx1 : s ≤ x ∧ x ≤ e := by omega
  have eA : ∀ k, k < s → d'[k]! = d[k]! := fun k hk => h.out (.inl hk)
  have eB : ∀ k, s ≤ k → k < x → d'[k]! = d[k + m - s]! := fun k h1 h2 => h.lo k h1 (by omega)
  have eC : ∀ k, x ≤ k → k < e → d'[k]! = d[k + m - e]! := fun k h1 h2 => h.hi k (by omega) h2
  have eD : ∀ k, e ≤ k → d'[k]! = d[k]! := fun k hk => h.out (.inr hk)
  have T12 : ∀ i, a ≤ i → i < s → ∀ j, e ≤ j → j < b → TL st rk d[i]! d[j]! := fun i hi1 hi2 j hj1 hj2 => by
    rcases c1 with c | c | c
    · omega
    · omega
    · have t1 : i = s - 1 ∨ TL st rk d[i]! d[s - 1]! := by
        by_cases hh : i = s - 1
        · exact .inl hh
        · exact .inr (h1 i (s - 1) hi1 (by omega) (by omega))
      have t2 : e = j ∨ TL st rk d[e]! d[j]! := by
        by_cases hh : e = j
        · exact .inl hh
        · exact .inr (h2 e j (by omega) (by omega) hj2)
      have t3 : TL st rk d[i]! d[e]! := by
        rcases t1 with t1 | t1
        · rw [t1]; exact c
        · exact t1.trans c
      rcases t2 with t2 | t2
      · rw [← t2]; exact t3
      · exact t3.trans t2
  have T21 : ∀ j, m ≤ j → j < e → ∀ i, s ≤ i → i < m → TL st rk d[j]! d[i]! := fun j hj1 hj2 i hi1 hi2 => by
    rcases c2 with c | c | c
    · omega
    · omega
    · have t1 : j = e - 1 ∨ TL st rk d[j]! d[e - 1]! := by
        by_cases hh : j = e - 1
        · exact .inl hh
        · exact .inr (h2 j (e - 1) hj1 (by omega) (by omega))
      have t2 : s = i ∨ TL st rk d[s]! d[i]! := by
        by_cases hh : s = i
        · exact .inl hh
        · exact .inr (h1 s i (by omega) (by omega) hi2)
      have t3 : TL st rk d[j]! d[s]! := by
        rcases t1 with t1 | t1
        · rw [t1]; exact c
        · exact t1.trans c
      rcases t2 with t2 | t2
      · rw [← t2]; exact t3
      · exact t3.trans t2
  refine ⟨?_, ?_, ?_, ?_, ?_, ?_, ?_⟩
  · intro i j i1 i2 i3
    rw [eA i (by omega), eA j i3]; exact h1 i j i1 i2 (by omega)
  · intro i j i1 i2 i3
    rw [eB i i1 (by omega), eB j (by omega) i3]; exact h2 _ _ (by omega) (by omega) (by omega)
  · intro i j i1 i2 i3
    rw [eC i i1 (by omega), eC j (by omega) i3]; exact h1 _ _ (by omega) (by omega) (by omega)
  · intro i j i1 i2 i3
    rw [eD i i1, eD j (by omega)]; exact h2 i j (by omega) i2 i3
  · intro i j i1 i2 i3 i4
    rw [eA i i2, eB j i3 i4]; exact hl _ _ i1 (by omega) (by omega) (by omega)
  · intro i j i1 i2 i3 i4
    rw [eC i i1 i2, eD j i3]; exact hl _ _ (by omega) (by omega) (by omega) i4
  · intro i j i1 i2 i3 i4
    by_cases hi : i < s
    · by_cases hj : j < e
      · rw [eA i hi, eC j i3 hj]
        exact h1 i _ i1 (by omega) (by omega)
      · rw [eA i hi, eD j (by omega)]
        exact T12 i i1 hi j (by omega) i4
    · by_cases hj : j < e
      · rw [eB i (by omega) i2, eC j i3 hj]
        exact T21 _ (by omega) (by omega) _ (by omega) (by omega)
      · rw [eB i (by omega) i2, eD j (by omega)]
        exact h2 _ _ (by omega) (by omega) i4
/-- Both halves merged: the whole is. -/
theorem ord_join {d : Array α} {a x b : Nat} (h1 : Ord st rk d a x) (h2 : Ord st rk d x b) (hc : Crs st rk d a x b) : Ord st rk d a b := by
  intro i j i1 i2 i3
  by_cases hi : j < x
  · exact h1 i j i1 i2 hi
  · by_cases hj : i < x
    · exact hc i j i1 hj (by omega) i3
    · exact h2 i j (by omega) i2 i3
theorem crs_left {d d' : Array α} {a x b : Nat} (hp : PermIn a x d d') (hx : x ≤ d.size) (hc : Crs st rk d a x b) : Crs st rk d' a x b := by
  intro i j i1 i2 i3 i4
  rw [hp.2.1 j (.inr i3)]
  exact perm_all (fun y => TL st rk y d[j]!) hx hp (fun k k1 k2 => hc k j k1 k2 i3 i4) i i1 i2
theorem crs_right {d d' : Array α} {a x b : Nat} (hp : PermIn x b d d') (hb : b ≤ d.size) (hc : Crs st rk d a x b) : Crs st rk d' a x b := by
  intro i j i1 i2 i3 i4
  rw [hp.2.1 i (.inl i2)]
  exact perm_all (fun y => TL st rk d[i]! y) hb hp (fun k k1 k2 => hc i k i1 i2 k1 k2) j i3 i4
theorem ord_out {d d' : Array α} {a b x y : Nat} (hp : PermIn x y d d') (ho : b ≤ x ∨ y ≤ a) (h : Ord st rk d a b) : Ord st rk d' a b := by
  intro i j i1 i2 i3
  rw [hp.2.1 i (by omega), hp.2.1 j (by omega)]; exact h i j i1 i2 i3
theorem lohi_out {d d' : Array α} {a m b x y : Nat} (hp : PermIn x y d d') (ho : b ≤ x ∨ y ≤ a) (h : LoHi rk d a m b) : LoHi rk d' a m b := by
  intro i j i1 i2 i3 i4
  rw [hp.2.1 i (by omega), hp.2.1 j (by omega)]; exact h i j i1 i2 i3 i4
end
section
variable {α : Type} [Inhabited α] (st rk : α → Int)
def bst (x y : α) : Bool := decide (st x < st y)
def btl (x y : α) : Bool := decide (st x < st y ∨ (st x = st y ∧ rk x < rk y))
variable {st rk}
omit [Inhabited α] in
theorem btl_swo : SWO (btl st rk) := ⟨fun x => by simp [btl], fun x y z h1 h2 => by simp only [btl, decide_eq_true_eq] at *; omega, fun x y z h1 h2 => by simp only [btl, decide_eq_false_iff_not] at *; omega⟩
omit [Inhabited α] in
theorem btl_up {x y : α} (h : rk x < rk y) : bst st y x = btl st rk y x := by unfold bst btl; rw [decide_eq_decide]; omega
theorem insInner_same (a : Nat) : ∀ (j : Nat) (d : Array α), j < d.size → (∀ k, a ≤ k → k < j → rk d[k]! < rk d[j]!) → insInner (bst st) a j d = insInner (btl st rk) a j d
  | 0, d, _, _ => rfl
  | j + 1, d, hj, h => by
    unfold insInner
    by_cases ha : a < j + 1
    · rw [btl_up (h j (by omega) (by omega))]
      split
      · have g := swp_get d hj (show j < d.size by omega)
        exact insInner_same a j (swp d (j + 1) j) (by rw [swp_size]; omega) fun k k1 k2 => by
          rw [g, g, if_neg (by omega), if_neg (by omega), if_pos rfl]; exact h k k1 (by omega)
      · rfl
    · simp [ha]
theorem insInner_perm (lt : α → α → Bool) (a b : Nat) : ∀ (j : Nat) (d : Array α), a ≤ j → j < b → b ≤ d.size → PermIn a b d (insInner lt a j d)
  | 0, d, _, _, _ => permIn_refl _ _ _
  | j + 1, d, h1, h2, h3 => by
    unfold insInner
    split
    · rename_i hc
      simp only [Bool.and_eq_true, decide_eq_true_eq] at hc
      exact permIn_trans _ _ _ _ _ (swp_permIn _ _ _ _ _ (by omega) (by omega) (by omega) (by omega) h3) (insInner_perm lt a b j _ (by omega) (by omega) (by rw [swp_size]; exact h3))
    · exact permIn_refl _ _ _
theorem insOuter_same (a b : Nat) : ∀ (n i : Nat) (d : Array α), b - i = n → a ≤ i → b ≤ d.size → LoHi rk d a i b → (∀ k j, i ≤ k → k < j → j < b → rk d[k]! < rk d[j]!) → insOuter (bst st) a b i d = insOuter (btl st rk) a b i d
  | 0, i, d, hn, hi, hb, h1, h2 => by
    have e : ∀ lt : α → α → Bool, insOuter lt a b i d = d := fun lt => by rw [insOuter, if_neg (by omega)]
    rw [e, e]
  | n + 1, i, d, hn, hi, hb, h1, h2 => by
    have hlt : i < b := by omega
    have eu : ∀ lt : α → α → Bool, insOuter lt a b i d = insOuter lt a b (i + 1) (insInner lt a i d) := fun lt => by rw [insOuter, if_pos hlt]
    rw [eu, eu]
    have e := insInner_same (st := st) (rk := rk) a i d (by omega) fun k k1 k2 => h1 k i k1 k2 (Nat.le_refl _) hlt
    have hp := insInner_perm (bst st) a (i + 1) i d hi (by omega) (by omega)
    rw [← e]
    refine insOuter_same a b n (i + 1) _ (by omega) (by omega) (by rw [hp.1]; exact hb) (fun k j k1 k2 j1 j2 => ?_) (fun k j k1 k2 j2 => ?_)
    · rw [hp.2.1 j (.inr j1)]
      refine perm_all (fun y => rk y < rk d[j]!) (by omega) hp (fun q q1 q2 => ?_) k k1 k2
      by_cases hq : q = i
      · rw [hq]; exact h2 i j (Nat.le_refl _) (by omega) j2
      · exact h1 q j q1 (by omega) (by omega) j2
    · rw [hp.2.1 j (.inr (by omega)), hp.2.1 k (.inr k1)]
      exact h2 k j (by omega) k2 j2
/-- Ranks rise. -/
def RkA (rk : α → Int) (d : Array α) (a b : Nat) : Prop := ∀ i j, a ≤ i → i < j → j < b → rk d[i]! < rk d[j]!
def Dst (rk : α → Int) (d : Array α) (a b : Nat) : Prop := ∀ i j, a ≤ i → i < j → j < b → rk d[i]! ≠ rk d[j]!
theorem dst_iff (d : Array α) (a b : Nat) (hb : b ≤ d.size) : Dst rk d a b ↔ (((d.extract a b).toList).map rk).Nodup := by
  rw [extract_toList d a b hb, List.map_map, List.nodup_iff_pairwise_ne, List.pairwise_map]
  constructor
  · intro h
    refine (List.pairwise_lt_range').imp_of_mem ?_
    intro x y hx hy hxy
    have hx1 := List.mem_range'_1.1 hx
    have hy1 := List.mem_range'_1.1 hy
    exact h x y hx1.1 hxy (by omega)
  · intro h i j h1 h2 h3
    have := List.pairwise_iff_getElem.1 h (i - a) (j - a) (by simp; omega) (by simp; omega) (by omega)
    simp only [List.getElem_range', Function.comp] at this
    rw [show a + 1 * (i - a) = i by omega, show a + 1 * (j - a) = j by omega] at this
    exact this
theorem Dst.perm {d d' : Array α} {a b : Nat} (h : Dst rk d a b) (hb : b ≤ d.size) (hp : PermIn a b d d') : Dst rk d' a b := by
  rw [dst_iff _ _ _ hb] at h
  rw [dst_iff _ _ _ (by rw [hp.1]; exact hb)]
  exact (hp.2.2.map rk).nodup_iff.2 h
theorem ord_of {d : Array α} {a b : Nat} (h : SortedIn (btl st rk) a b d) (hd : Dst rk d a b) : Ord st rk d a b := by
  intro i j i1 i2 i3
  have h1 := h i j i1 i2 i3
  have h2 := hd i j i1 i2 i3
  simp only [btl, decide_eq_false_iff_not] at h1
  unfold TL; omega
/-- What the insertion sort leaves, by steps alone, of elements whose ranks rise. -/
theorem ins_stable {d : Array α} {a b : Nat} (hab : a ≤ b) (hb : b ≤ d.size) (h : RkA rk d a b) : PermIn a b d (insertionSort (bst st) d a b) ∧ Ord st rk (insertionSort (bst st) d a b) a b := by
  have e : insertionSort (bst st) d a b = insertionSort (btl st rk) d a b := by
    unfold insertionSort
    exact insOuter_same a b _ (a + 1) d rfl (by omega) hb (fun i j i1 i2 i3 i4 => h i j i1 (by omega) i4) (fun i j i1 i2 i3 => h i j (by omega) i2 i3)
  rw [e]
  have hs := insertionSort_holds (lt := btl st rk) btl_swo d a b hab hb
  have hd : Dst rk d a b := fun i j h1 h2 h3 => Int.ne_of_lt (h i j h1 h2 h3)
  exact ⟨hs.1, ord_of hs.2 (hd.perm hb hs.1)⟩
theorem insOuter_perm (lt : α → α → Bool) (a b : Nat) : ∀ (n i : Nat) (d : Array α), b - i = n → a ≤ i → b ≤ d.size → PermIn a b d (insOuter lt a b i d)
  | 0, i, d, hn, hi, hb => by rw [insOuter, if_neg (by omega)]; exact permIn_refl _ _ _
  | n + 1, i, d, hn, hi, hb => by
    rw [insOuter, if_pos (by omega)]
    have h1 := insInner_perm lt a b i d hi (by omega) hb
    exact permIn_trans _ _ _ _ _ h1 (insOuter_perm lt a b n (i + 1) _ (by omega) (by omega) (by rw [h1.1]; exact hb))
theorem insertionSort_perm (lt : α → α → Bool) (d : Array α) (a b : Nat) (hab : a ≤ b) (hb : b ≤ d.size) : PermIn a b d (insertionSort lt d a b) := insOuter_perm lt a b _ (a + 1) d rfl (by omega) hb
end
end Go.Proofs.YtdbgfidnccpmdaaGreat

/-
  Histories: the plain law of their order.
-/
namespace Go.Proofs.YtdbgfidnccpmdaaGreat
open Go.Sort
set_option linter.unusedVariables false

/-- An entry: its step, its place among the calls, its place among the drops. -/
structure En where
  st : Int
  ca : Int
  dr : Int
deriving Inhabited, DecidableEq
def En.rk (e : En) : Int := if e.dr = -1 then e.ca else 1000 + e.dr
def callE (ps : List Int) : List En := ps.zipIdx.map fun q => ⟨q.1, (q.2 : Int), -1⟩
def dropE (ds : List Int) : List En := ds.zipIdx.map fun q => ⟨q.1, -1, (q.2 : Int)⟩
def E0 (ps ds : List Int) : List En := callE ps ++ dropE ds
abbrev ETL (x y : En) : Prop := TL En.st En.rk x y
def IsOrd (ps ds : List Int) (O : List En) : Prop := O.Perm (E0 ps ds) ∧ O.Pairwise ETL
theorem callE_len (ps : List Int) : (callE ps).length = ps.length := by simp [callE]
theorem dropE_len (ds : List Int) : (dropE ds).length = ds.length := by simp [dropE]
theorem callE_at (ps : List Int) (i : Nat) (hi : i < ps.length) : (callE ps)[i]'(by rw [callE_len]; exact hi) = ⟨ps[i], i, -1⟩ := by simp [callE]
theorem dropE_at (ds : List Int) (i : Nat) (hi : i < ds.length) : (dropE ds)[i]'(by rw [dropE_len]; exact hi) = ⟨ds[i], -1, i⟩ := by simp [dropE]
theorem callE_snoc (ps : List Int) (p : Int) : callE (ps ++ [p]) = callE ps ++ [⟨p, (ps.length : Int), -1⟩] := by simp [callE, List.zipIdx_append]
theorem dropE_snoc (ds : List Int) (p : Int) : dropE (ds ++ [p]) = dropE ds ++ [⟨p, -1, (ds.length : Int)⟩] := by simp [dropE, List.zipIdx_append]
theorem callE_mem {ps : List Int} {e : En} (h : e ∈ callE ps) : ∃ i, ∃ hi : i < ps.length, e = ⟨ps[i], i, -1⟩ := by
  obtain ⟨i, hi, rfl⟩ := List.mem_iff_getElem.1 h
  exact ⟨i, by rw [← callE_len]; exact hi, callE_at _ _ _⟩
theorem dropE_mem {ds : List Int} {e : En} (h : e ∈ dropE ds) : ∃ i, ∃ hi : i < ds.length, e = ⟨ds[i], -1, i⟩ := by
  obtain ⟨i, hi, rfl⟩ := List.mem_iff_getElem.1 h
  exact ⟨i, by rw [← dropE_len]; exact hi, dropE_at _ _ _⟩
theorem E0_len (ps ds : List Int) : (E0 ps ds).length = ps.length + ds.length := by simp [E0, callE_len, dropE_len]
/-- Ranks rise among the entries as they are made. -/
theorem E0_rk (ps ds : List Int) (hp : ps.length ≤ 1000) : (E0 ps ds).Pairwise (fun x y => x.rk < y.rk) := by
  unfold E0
  rw [List.pairwise_append]
  refine ⟨?_, ?_, ?_⟩
  · rw [List.pairwise_iff_getElem]
    intro i j hi hj hij
    rw [callE_len] at hi hj
    rw [callE_at _ i hi, callE_at _ j hj]
    simp only [En.rk, if_true]; omega
  · rw [List.pairwise_iff_getElem]
    intro i j hi hj hij
    rw [dropE_len] at hi hj
    rw [dropE_at _ i hi, dropE_at _ j hj]
    simp only [En.rk]
    rw [if_neg (by omega), if_neg (by omega)]; omega
  · intro x hx y hy
    obtain ⟨i, hi, rfl⟩ := callE_mem hx
    obtain ⟨j, hj, rfl⟩ := dropE_mem hy
    simp only [En.rk, if_true]
    rw [if_neg (by omega)]; omega
theorem IsOrd.len {ps ds : List Int} {O : List En} (h : IsOrd ps ds O) : O.length = ps.length + ds.length := by rw [h.1.length_eq, E0_len]
theorem IsOrd.mem {ps ds : List Int} {O : List En} (h : IsOrd ps ds O) {e : En} (he : e ∈ O) : (∃ i, ∃ hi : i < ps.length, e = ⟨ps[i], i, -1⟩) ∨ (∃ i, ∃ hi : i < ds.length, e = ⟨ds[i], -1, i⟩) := by
  have := h.1.mem_iff.1 he
  rcases List.mem_append.1 this with h1 | h1
  · exact .inl (callE_mem h1)
  · exact .inr (dropE_mem h1)
theorem IsOrd.le {ps ds : List Int} {O : List En} (h : IsOrd ps ds O) (i j : Nat) (hi : i < j) (hj : j < O.length) : (O[i]).st ≤ (O[j]).st := by
  have := List.pairwise_iff_getElem.1 h.2 i j (by omega) hj hi
  unfold ETL TL at this; omega
theorem etl_asymm {x y : En} (h : ETL x y) : ¬ ETL y x := by unfold ETL TL at *; omega
theorem sorted_unique : ∀ (O O' : List En), O.Perm O' → O.Pairwise ETL → O'.Pairwise ETL → O = O'
  | [], O', h, _, _ => by rw [List.nil_perm] at h; exact h.symm
  | a :: O, [], h, _, _ => absurd h.length_eq (by simp)
  | a :: O, b :: O', h, h1, h2 => by
    have hab : a = b := by
      have ha : a ∈ b :: O' := h.mem_iff.1 (by simp)
      have hb : b ∈ a :: O := h.mem_iff.2 (by simp)
      rcases List.mem_cons.1 ha with e | ha
      · exact e
      · rcases List.mem_cons.1 hb with e | hb
        · exact e.symm
        · exact absurd ((List.pairwise_cons.1 h2).1 a ha) (etl_asymm ((List.pairwise_cons.1 h1).1 b hb))
    subst hab
    rw [sorted_unique O O' (List.perm_cons a |>.1 h) (List.pairwise_cons.1 h1).2 (List.pairwise_cons.1 h2).2]
theorem IsOrd.unique {ps ds : List Int} {O O' : List En} (h : IsOrd ps ds O) (h' : IsOrd ps ds O') : O = O' := sorted_unique _ _ (h.1.trans h'.1.symm) h.2 h'.2
/-- Behind a put in its place. -/
theorem put_ord {l X Y : List En} {e : En} (hl : l = X ++ Y) (h : l.Pairwise ETL) (hr : ∀ x ∈ l, x.rk < e.rk) (hy : ∀ y ∈ Y, e.st < y.st) (hx : ∀ x ∈ X, x.st ≤ e.st) : (X ++ e :: Y).Perm (l ++ [e]) ∧ (X ++ e :: Y).Pairwise ETL := by
  subst hl
  refine ⟨?_, ?_⟩
  · rw [List.append_assoc]
    exact List.Perm.append_left X (List.perm_append_comm (l₁ := [e]) (l₂ := Y))
  · rw [List.pairwise_append] at h ⊢
    refine ⟨h.1, List.pairwise_cons.2 ⟨fun y hy2 => .inl (hy y hy2), h.2.1⟩, fun x hx2 y hy2 => ?_⟩
    rcases List.mem_cons.1 hy2 with rfl | hy2
    · have := hx x hx2
      have := hr x (List.mem_append_left _ hx2)
      unfold ETL TL; omega
    · exact h.2.2 x hx2 y hy2
/-- All in front of one that is not above are not above. -/
theorem le_front {X : List En} {s : Int} (h : X.Pairwise ETL) (hl : ∀ x, X.getLast? = some x → x.st ≤ s) : ∀ x ∈ X, x.st ≤ s := by
  intro x hx
  obtain ⟨i, hi, rfl⟩ := List.mem_iff_getElem.1 hx
  have hn : X ≠ [] := by intro c; subst c; simp at hi
  have h1 := hl (X.getLast hn) (List.getLast?_eq_some_getLast hn)
  by_cases he : i = X.length - 1
  · rw [List.getLast_eq_getElem] at h1
    simp only [he]; exact h1
  · have := List.pairwise_iff_getElem.1 h i (X.length - 1) hi (by omega) (by omega)
    rw [List.getLast_eq_getElem] at h1
    unfold ETL TL at this; omega
/-! ## A history's calls, as far as it is asked whether they are well. -/
structure Cw where
  th : Int
  fr : Int
  «to» : Int
  pt : Int
def Cw.ok (c : Cw) : Prop := 0 ≤ c.th ∧ c.th ≤ 63 ∧ 0 ≤ c.fr ∧ c.fr < c.pt ∧ c.pt ≤ c.to
def CwOk (l : List Cw) : Prop := (∀ c ∈ l, c.ok) ∧ l.Pairwise fun c d => c.th = d.th → c.to ≤ d.fr
/-- The last call's end of a thread. -/
def lastTo (l : List Cw) (t : Int) : Int := l.foldl (fun a c => if c.th = t then c.to else a) 0
theorem lastTo_snoc (l : List Cw) (c : Cw) (t : Int) : lastTo (l ++ [c]) t = if c.th = t then c.to else lastTo l t := by unfold lastTo; rw [List.foldl_append]; rfl
theorem lastTo_ge {l : List Cw} (h : CwOk l) (t : Int) : 0 ≤ lastTo l t ∧ (∀ c ∈ l, c.th = t → c.to ≤ lastTo l t) ∧ (lastTo l t = 0 ∨ ∃ c ∈ l, c.th = t ∧ c.to = lastTo l t) := by
  rcases List.eq_nil_or_concat l with rfl | ⟨l', c, rfl⟩
  · exact ⟨Int.le_refl _, fun c hc => (by cases hc), .inl rfl⟩
  · simp only [List.concat_eq_append] at h ⊢
    obtain ⟨h1, h2⟩ := h
    rw [List.pairwise_append] at h2
    have ih := lastTo_ge (l := l') ⟨fun c hc => h1 c (List.mem_append_left _ hc), h2.1⟩ t
    have hc := h1 c (by simp)
    rw [lastTo_snoc]
    split
    · rename_i ht
      refine ⟨by unfold Cw.ok at hc; omega, fun d hd hdt => ?_, .inr ⟨c, by simp, ht, rfl⟩⟩
      rcases List.mem_append.1 hd with hd | hd
      · have := h2.2.2 d hd c (by simp) (by omega)
        unfold Cw.ok at hc; omega
      · simp only [List.mem_singleton] at hd; subst hd; exact Int.le_refl _
    · rename_i ht
      refine ⟨ih.1, fun d hd hdt => ?_, ?_⟩
      · rcases List.mem_append.1 hd with hd | hd
        · exact ih.2.1 d hd hdt
        · simp only [List.mem_singleton] at hd; subst hd; exact absurd hdt ht
      · rcases ih.2.2 with h3 | ⟨d, hd, h3⟩
        · exact .inl h3
        · exact .inr ⟨d, List.mem_append_left _ hd, h3⟩
termination_by l.length
decreasing_by simp_all
/-- One call more: what is asked of it, by the last end of its thread. -/
theorem cwok_snoc {l : List Cw} (h : CwOk l) (c : Cw) : CwOk (l ++ [c]) ↔ (0 ≤ c.th ∧ c.th ≤ 63 ∧ lastTo l c.th ≤ c.fr ∧ c.fr < c.pt ∧ c.pt ≤ c.to) := by
  have hg := lastTo_ge h c.th
  constructor
  · intro ⟨h1, h2⟩
    have hc := h1 c (by simp)
    rw [List.pairwise_append] at h2
    unfold Cw.ok at hc
    refine ⟨hc.1, hc.2.1, ?_, hc.2.2.2.1, hc.2.2.2.2⟩
    rcases hg.2.2 with h3 | ⟨d, hd, h3, h4⟩
    · omega
    · have := h2.2.2 d hd c (by simp) h3; omega
  · intro hh
    refine ⟨fun d hd => ?_, ?_⟩
    · rcases List.mem_append.1 hd with hd | hd
      · exact h.1 d hd
      · simp only [List.mem_singleton] at hd; subst hd
        unfold Cw.ok; omega
    · rw [List.pairwise_append]
      refine ⟨h.2, List.pairwise_singleton _ _, fun d hd e he hde => ?_⟩
      simp only [List.mem_singleton] at he; subst he
      have := hg.2.1 d hd hde; omega
/-- One call more: what the document asks of it. -/
theorem cwok_snoc' {l : List Cw} (h : CwOk l) (c : Cw) : CwOk (l ++ [c]) ↔ (c.ok ∧ ∀ d ∈ l, d.th = c.th → d.to ≤ c.fr) := by
  constructor
  · intro ⟨h1, h2⟩
    rw [List.pairwise_append] at h2
    exact ⟨h1 c (by simp), fun d hd hdt => h2.2.2 d hd c (by simp) hdt⟩
  · intro ⟨h1, h2⟩
    refine ⟨fun d hd => ?_, ?_⟩
    · rcases List.mem_append.1 hd with hd | hd
      · exact h.1 d hd
      · simp only [List.mem_singleton] at hd; subst hd; exact h1
    · rw [List.pairwise_append]
      exact ⟨h.2, List.pairwise_singleton _ _, fun d hd e he hde => by simp only [List.mem_singleton] at he; subst he; exact h2 d hd hde⟩
theorem cwok_take {l : List Cw} (h : CwOk l) (k : Nat) : CwOk (l.take k) := ⟨fun c hc => h.1 c (List.mem_of_mem_take hc), h.2.sublist (List.take_sublist _ _)⟩
def Wel (l : List Cw) (ds : List Int) : Prop := CwOk l ∧ (l.map Cw.pt ++ ds).Nodup
theorem ord_steps {ps ds : List Int} {O : List En} (h : IsOrd ps ds O) : (O.map En.st).Perm (ps ++ ds) := by
  have e : (E0 ps ds).map En.st = ps ++ ds := by
    unfold E0
    rw [List.map_append]
    congr 1
    · apply List.ext_getElem
      · simp [callE_len]
      · intro i h1 h2; rw [List.getElem_map, callE_at _ i h2]
    · apply List.ext_getElem
      · simp [dropE_len]
      · intro i h1 h2; rw [List.getElem_map, dropE_at _ i h2]
  rw [← e]; exact h.1.map _
theorem ord_nodup {ps ds : List Int} {O : List En} (h : IsOrd ps ds O) : (O.map En.st).Nodup ↔ (ps ++ ds).Nodup := (ord_steps h).nodup_iff
/-- Steps that never fall are all unlike just if neighbours are. -/
theorem nodup_adj {l : List Int} (h : ∀ i j, (hi : i < j) → (hj : j < l.length) → l[i]'(by omega) ≤ l[j]) : l.Nodup ↔ ∀ i, (hi : i + 1 < l.length) → l[i + 1] ≠ l[i]'(by omega) := by
  rw [List.nodup_iff_pairwise_ne, List.pairwise_iff_getElem]
  constructor
  · intro hp i hi c
    exact hp i (i + 1) (by omega) hi (by omega) c.symm
  · intro ha i j hi hj hij c
    have h1 := ha i (by omega)
    have h2 := h i (i + 1) (by omega) (by omega)
    by_cases hj2 : j = i + 1
    · subst hj2; exact h1 c.symm
    · have h3 := h (i + 1) j (by omega) hj; omega
end Go.Proofs.YtdbgfidnccpmdaaGreat

/-
  The plain law of a stable sort: blocks that grow.
-/
namespace Go.Proofs.YtdbgfidnccpmdaaGreat
open Go.Sort
set_option linter.unusedVariables false

section
variable {α : Type} [Inhabited α] (st rk : α → Int)
/-- Within a block (R) they are in order; of two blocks the ranks rise. -/
def Bk (R : Nat → Nat → Prop) (d : Array α) (n : Nat) : Prop := ∀ i j, i < j → j < n → (R i j → TL st rk d[i]! d[j]!) ∧ (¬ R i j → rk d[i]! < rk d[j]!)
variable {st rk}
theorem Bk.congr {R R' : Nat → Nat → Prop} {d : Array α} {n : Nat} (h : Bk st rk R d n) (hr : ∀ i j, i < j → j < n → (R i j ↔ R' i j)) : Bk st rk R' d n := fun i j h1 h2 => by
  have := h i j h1 h2
  rw [hr i j h1 h2] at this; exact this
theorem Bk.ord {R : Nat → Nat → Prop} {d : Array α} {n : Nat} (h : Bk st rk R d n) {a b : Nat} (hb : b ≤ n) (hr : ∀ i j, a ≤ i → i < j → j < b → R i j) : Ord st rk d a b := fun i j h1 h2 h3 => (h i j h2 (by omega)).1 (hr i j h1 h2 h3)
theorem Bk.rka {R : Nat → Nat → Prop} {d : Array α} {n : Nat} (h : Bk st rk R d n) {a b : Nat} (hb : b ≤ n) (hr : ∀ i j, a ≤ i → i < j → j < b → ¬ R i j) : RkA rk d a b := fun i j h1 h2 h3 => (h i j h2 (by omega)).2 (hr i j h1 h2 h3)
theorem Bk.lohi {R : Nat → Nat → Prop} {d : Array α} {n : Nat} (h : Bk st rk R d n) {a m b : Nat} (hb : b ≤ n) (hr : ∀ i j, a ≤ i → i < m → m ≤ j → j < b → ¬ R i j) : LoHi rk d a m b := fun i j h1 h2 h3 h4 => (h i j (by omega) (by omega)).2 (hr i j h1 h2 h3 h4)
/-- A range is made one block. -/
theorem Bk.join {R : Nat → Nat → Prop} {d d' : Array α} {n a b : Nat} (h : Bk st rk R d n) (hb : b ≤ n) (hn : n ≤ d.size) (hp : PermIn a b d d') (ho : Ord st rk d' a b)
    (h1 : ∀ i j, i < a → a ≤ j → j < b → ¬ R i j) (h2 : ∀ i j, a ≤ i → i < b → b ≤ j → j < n → ¬ R i j) : Bk st rk (fun i j => (a ≤ i ∧ j < b) ∨ R i j) d' n := by
  intro i j hij hj
  have outE : ∀ k, (k < a ∨ b ≤ k) → d'[k]! = d[k]! := fun k hk => hp.2.1 k hk
  by_cases hi1 : i < a
  · by_cases hj1 : j < b
    · by_cases hj2 : j < a
      · rw [outE i (.inl hi1), outE j (.inl hj2)]
        have := h i j hij hj
        refine ⟨fun hr => this.1 (by rcases hr with hr | hr; omega; exact hr), fun hr => this.2 fun c => hr (.inr c)⟩
      · refine ⟨fun hr => absurd hr ?_, fun _ => ?_⟩
        · rintro (hr | hr)
          · omega
          · exact h1 i j hi1 (by omega) hj1 hr
        · rw [outE i (.inl hi1)]
          exact perm_all (fun y => rk d[i]! < rk y) (by omega) hp (fun k k1 k2 => (h i k (by omega) (by omega)).2 (h1 i k hi1 k1 k2)) j (by omega) hj1
    · rw [outE i (.inl hi1), outE j (.inr (by omega))]
      have := h i j hij hj
      refine ⟨fun hr => this.1 (by rcases hr with hr | hr; omega; exact hr), fun hr => this.2 fun c => hr (.inr c)⟩
  · by_cases hi2 : i < b
    · by_cases hj1 : j < b
      · exact ⟨fun _ => ho i j (by omega) hij hj1, fun hr => absurd (.inl ⟨by omega, hj1⟩) hr⟩
      · refine ⟨fun hr => absurd hr ?_, fun _ => ?_⟩
        · rintro (hr | hr)
          · omega
          · exact h2 i j (by omega) hi2 (by omega) hj hr
        · rw [outE j (.inr (by omega))]
          exact perm_all (fun y => rk y < rk d[j]!) (by omega) hp (fun k k1 k2 => (h k j (by omega) hj).2 (h2 k j k1 k2 (by omega) hj)) i (by omega) hi2
    · rw [outE i (.inr (by omega)), outE j (.inr (by omega))]
      have := h i j hij hj
      refine ⟨fun hr => this.1 (by rcases hr with hr | hr; omega; exact hr), fun hr => this.2 fun c => hr (.inr c)⟩
def R1 (a : Nat) (i j : Nat) : Prop := i / 20 = j / 20 ∧ j < a
def R2 (s a : Nat) (i j : Nat) : Prop := if j < a then i / (2 * s) = j / (2 * s) else i / s = j / s
def Is (s : Nat) : Prop := s = 20 ∨ s = 40 ∨ s = 80 ∨ s = 160
theorem bk_start {d : Array α} {n : Nat} (h : RkA rk d 0 n) : Bk st rk (R1 0) d n := fun i j h1 h2 => ⟨fun c => absurd c.2 (by omega), fun _ => h i j (by omega) h1 h2⟩
theorem bk_ins {d d' : Array α} {n k a b : Nat} (ha : a = 20 * k) (hb : b = a + 20 ∨ (b = n ∧ n < a + 20 ∧ a ≤ n)) (hbn : b ≤ n) (hn : n ≤ d.size) (h : Bk st rk (R1 a) d n) (hp : PermIn a b d d') (ho : Ord st rk d' a b) : Bk st rk (R1 (a + 20)) d' n := by
  refine (h.join hbn hn hp ho (fun i j h1 h2 h3 c => ?_) (fun i j h1 h2 h3 h4 c => ?_)).congr fun i j h1 h2 => ?_
  · unfold R1 at c; omega
  · unfold R1 at c; omega
  · unfold R1; omega
theorem bk_rka {d : Array α} {n k a b : Nat} (ha : a = 20 * k) (hbn : b ≤ n) (h : Bk st rk (R1 a) d n) : RkA rk d a b := h.rka hbn fun i j h1 h2 h3 c => by unfold R1 at c; omega
theorem bk_two {d : Array α} {n a : Nat} (ha : n ≤ a) (h : Bk st rk (R1 a) d n) : Bk st rk (R2 20 0) d n := h.congr fun i j h1 h2 => by unfold R1 R2; rw [if_neg (by omega)]; omega
theorem bk_pair {s : Nat} {d : Array α} {n k a m b : Nat} (hs : Is s) (ha : a = 2 * s * k) (hm : m = a + s) (hb : b ≤ a + 2 * s) (hbn : b ≤ n) (hmb : m < b) (h : Bk st rk (R2 s a) d n) : Ord st rk d a m ∧ Ord st rk d m b ∧ LoHi rk d a m b := by
  refine ⟨h.ord (by omega) fun i j h1 h2 h3 => ?_, h.ord hbn fun i j h1 h2 h3 => ?_, h.lohi hbn fun i j h1 h2 h3 h4 c => ?_⟩
  · unfold R2; rw [if_neg (by omega)]; rcases hs with rfl | rfl | rfl | rfl <;> omega
  · unfold R2; rw [if_neg (by omega)]; rcases hs with rfl | rfl | rfl | rfl <;> omega
  · unfold R2 at c; rw [if_neg (by omega)] at c; rcases hs with rfl | rfl | rfl | rfl <;> omega
theorem bk_merge {s : Nat} {d d' : Array α} {n k a m b : Nat} (hs : Is s) (ha : a = 2 * s * k) (hb : b = a + 2 * s ∨ (b = n ∧ n ≤ a + 2 * s ∧ a ≤ n)) (hbn : b ≤ n) (hn : n ≤ d.size) (h : Bk st rk (R2 s a) d n) (hp : PermIn a b d d') (ho : Ord st rk d' a b) : Bk st rk (R2 s (a + 2 * s)) d' n := by
  refine (h.join hbn hn hp ho (fun i j h1 h2 h3 c => ?_) (fun i j h1 h2 h3 h4 c => ?_)).congr fun i j h1 h2 => ?_
  · unfold R2 at c; rw [if_neg (by omega)] at c; rcases hs with rfl | rfl | rfl | rfl <;> omega
  · unfold R2 at c; rw [if_neg (by omega)] at c; rcases hs with rfl | rfl | rfl | rfl <;> omega
  · unfold R2
    rcases hs with rfl | rfl | rfl | rfl <;> (split <;> split <;> omega)
/-- What is left of a row behind the last pair. -/
theorem bk_rest {s : Nat} {d : Array α} {n k a : Nat} (hs : Is s) (ha : a = 2 * s * k) (hb : n ≤ a + s) (h : Bk st rk (R2 s a) d n) : Bk st rk (R2 s (a + 2 * s)) d n := h.congr fun i j h1 h2 => by
  unfold R2
  rcases hs with rfl | rfl | rfl | rfl <;> (split <;> split <;> omega)
theorem bk_next {s : Nat} {d : Array α} {n a : Nat} (hs : Is s) (ha : n ≤ a) (h : Bk st rk (R2 s a) d n) : Bk st rk (R2 (2 * s) 0) d n := h.congr fun i j h1 h2 => by
  unfold R2; rw [if_pos (by omega), if_neg (by omega)]
theorem bk_end {s : Nat} {d : Array α} {n : Nat} (hs : n ≤ s) (h : Bk st rk (R2 s 0) d n) : Ord st rk d 0 n := h.ord (Nat.le_refl _) fun i j h1 h2 h3 => by
  unfold R2; rw [if_neg (by omega), Nat.div_eq_of_lt (by omega), Nat.div_eq_of_lt (by omega)]
/-- One element, put into what is in order behind it. -/
theorem one_left {d d' : Array α} {a m i b : Nat} (hm : m = a + 1) (hmi : m ≤ i) (hib : i ≤ b) (hb : b ≤ d.size) (h2 : Ord st rk d m b) (hl : LoHi rk d a m b) (hr : Rot d d' a m i)
    (c1 : ∀ k, m ≤ k → k < i → st d[k]! < st d[a]!) (c2 : ∀ k, i ≤ k → k < b → ¬ st d[k]! < st d[a]!) : PermIn a b d d' ∧ Ord st rk d' a b := by
  refine ⟨permIn_mono _ _ _ _ _ _ (Nat.le_refl _) hib hb hr.perm, fun x y x1 x2 x3 => ?_⟩
  have eB : ∀ k, a ≤ k → k + 1 < i → d'[k]! = d[k + 1]! := fun k k1 k2 => by rw [hr.lo k k1 (by omega)]; congr 1; omega
  have eA : d'[i - 1]! = d[a]! := by rw [hr.hi (i - 1) (by omega) (by omega)]; congr 1; omega
  have eD : ∀ k, i ≤ k → d'[k]! = d[k]! := fun k hk => hr.out (.inr hk)
  by_cases hx : x + 1 < i
  · rw [eB x x1 hx]
    by_cases hy : y + 1 < i
    · rw [eB y (by omega) hy]; exact h2 _ _ (by omega) (by omega) (by omega)
    · by_cases hy2 : y = i - 1
      · rw [hy2, eA]; exact .inl (c1 _ (by omega) (by omega))
      · rw [eD y (by omega)]; exact h2 _ _ (by omega) (by omega) x3
  · by_cases hx2 : x = i - 1
    · rw [hx2, eA, eD y (by omega)]
      exact TL.up (hl a y (Nat.le_refl _) (by omega) (by omega) x3) (c2 y (by omega) x3)
    · rw [eD x (by omega), eD y (by omega)]; exact h2 _ _ (by omega) x2 x3
theorem one_right {d d' : Array α} {a m i b : Nat} (hm : b = m + 1) (hai : a ≤ i) (him : i ≤ m) (hb : b ≤ d.size) (h1 : Ord st rk d a m) (hl : LoHi rk d a m b) (hr : Rot d d' i m b)
    (c1 : ∀ k, a ≤ k → k < i → ¬ st d[m]! < st d[k]!) (c2 : ∀ k, i ≤ k → k < m → st d[m]! < st d[k]!) : PermIn a b d d' ∧ Ord st rk d' a b := by
  refine ⟨permIn_mono _ _ _ _ _ _ hai (Nat.le_refl _) hb hr.perm, fun x y x1 x2 x3 => ?_⟩
  have eA : ∀ k, k < i → d'[k]! = d[k]! := fun k hk => hr.out (.inl hk)
  have eB : d'[i]! = d[m]! := by rw [hr.lo i (by omega) (by omega)]; congr 1; omega
  have eC : ∀ k, i < k → k < b → d'[k]! = d[k - 1]! := fun k k1 k2 => by rw [hr.hi k (by omega) k2]; congr 1; omega
  by_cases hx : x < i
  · rw [eA x hx]
    by_cases hy : y < i
    · rw [eA y hy]; exact h1 _ _ x1 x2 (by omega)
    · by_cases hy2 : y = i
      · rw [hy2, eB]; exact TL.up (hl x m x1 (by omega) (by omega) (by omega)) (c1 x x1 hx)
      · rw [eC y (by omega) x3]; exact h1 _ _ x1 (by omega) (by omega)
  · by_cases hx2 : x = i
    · rw [hx2, eB, eC y (by omega) x3]; exact .inl (c2 _ (by omega) (by omega))
    · rw [eC x (by omega) (by omega), eC y (by omega) x3]; exact h1 _ _ (by omega) (by omega) (by omega)
/-- A block moved by one exchange after the other. -/
theorem Rot.stepR {d d' : Array α} {a k : Nat} (hk : a ≤ k) (hs : k + 1 < d.size) (h : Rot d d' a (a + 1) (k + 1)) : Rot d (swp d' k (k + 1)) a (a + 1) (k + 2) := by
  have hsz : d'.size = d.size := h.perm.1
  have g := swp_get d' (i := k) (j := k + 1) (by omega) (by omega)
  have e1 : d'[k]! = d[a]! := by rw [h.hi k (by omega) (by omega)]; congr 1; omega
  have e2 : d'[k + 1]! = d[k + 1]! := h.out (.inr (by omega))
  refine ⟨permIn_trans _ _ _ _ _ (permIn_mono _ _ _ _ _ _ (Nat.le_refl _) (by omega) (by omega) h.perm) (swp_permIn _ _ _ _ _ (by omega) (by omega) (by omega) (by omega) (by omega)), fun q q1 q2 => ?_, fun q q1 q2 => ?_⟩
  · rw [g]
    by_cases hq : q = k
    · rw [if_neg (by omega), if_pos hq, e2]; congr 1; omega
    · rw [if_neg (by omega), if_neg hq, h.lo q q1 (by omega)]
  · obtain rfl : q = k + 1 := by omega
    rw [g, if_pos rfl, e1]; congr 1; omega
theorem Rot.stepL {d d' : Array α} {m k : Nat} (hk : k < m) (hs : m < d.size) (h : Rot d d' (k + 1) m (m + 1)) : Rot d (swp d' (k + 1) k) k m (m + 1) := by
  have hsz : d'.size = d.size := h.perm.1
  have g := swp_get d' (i := k + 1) (j := k) (by omega) (by omega)
  have e1 : d'[k + 1]! = d[m]! := by rw [h.lo (k + 1) (by omega) (by omega)]; congr 1; omega
  have e2 : d'[k]! = d[k]! := h.out (.inl (by omega))
  refine ⟨permIn_trans _ _ _ _ _ (permIn_mono _ _ _ _ _ _ (by omega) (Nat.le_refl _) (by omega) h.perm) (swp_permIn _ _ _ _ _ (by omega) (by omega) (by omega) (by omega) (by omega)), fun q q1 q2 => ?_, fun q q1 q2 => ?_⟩
  · obtain rfl : q = k := by omega
    rw [g, if_pos rfl, e1]; congr 1; omega
  · rw [g]
    by_cases hq : q = k + 1
    · rw [if_neg (by omega), if_pos hq, e2]; congr 1; omega
    · rw [if_neg (by omega), if_neg hq, h.hi q (by omega) q2]
end
end Go.Proofs.YtdbgfidnccpmdaaGreat

/-
  The plain law of a stable sort: a merge in three parts.
-/
namespace Go.Proofs.YtdbgfidnccpmdaaGreat
open Go.Sort
set_option linter.unusedVariables false

section
variable {α : Type} [Inhabited α] {st rk : α → Int}
/-- The search of a merge: behind 'start' the test fell out so, at r not. -/
structure Srch (st : α → Int) (d : Array α) (p s0 r0 s r : Nat) : Prop where
  h0 : s0 ≤ s
  h1 : s ≤ r
  h2 : r ≤ r0
  lo : s0 < s → ¬ st d[p - (s - 1)]! < st d[s - 1]!
  hi : r < r0 → st d[p - r]! < st d[r]!
theorem Srch.start {d : Array α} {p s0 r0 : Nat} (h : s0 ≤ r0) : Srch st d p s0 r0 s0 r0 := ⟨Nat.le_refl _, h, Nat.le_refl _, fun c => absurd c (by omega), fun c => absurd c (by omega)⟩
theorem Srch.up {d : Array α} {p s0 r0 s r c : Nat} (h : Srch st d p s0 r0 s r) (h1 : s ≤ c) (h2 : c < r) (hc : ¬ st d[p - c]! < st d[c]!) : Srch st d p s0 r0 (c + 1) r := ⟨by have := h.h0; omega, by omega, h.h2, fun _ => by rw [show c + 1 - 1 = c by omega]; exact hc, h.hi⟩
theorem Srch.down {d : Array α} {p s0 r0 s r c : Nat} (h : Srch st d p s0 r0 s r) (h1 : s ≤ c) (h2 : c < r) (hc : st d[p - c]! < st d[c]!) : Srch st d p s0 r0 s c := ⟨h.h0, h1, by have := h.h2; omega, h.lo, fun _ => hc⟩
/-- What a merge knows where it parts. -/
structure Part (a m b n mid s0 r0 : Nat) : Prop where
  am : a < m
  mb : m < b
  hmid : mid = (a + b) / 2
  hn : n = mid + m
  h : (mid < m ∧ s0 + b = n ∧ r0 = mid) ∨ (m ≤ mid ∧ s0 = a ∧ r0 = m)
theorem Part.of {a m b : Nat} (h1 : a < m) (h2 : m < b) : Part a m b ((a + b) / 2 + m) ((a + b) / 2) (if (a + b) / 2 < m then (a + b) / 2 + m - b else a) (if (a + b) / 2 < m then (a + b) / 2 else m) := by
  refine ⟨h1, h2, rfl, rfl, ?_⟩
  by_cases h : (a + b) / 2 < m
  · rw [if_pos h, if_pos h]; left; omega
  · rw [if_neg h, if_neg h]; right; omega
theorem Part.bd {a m b n mid s0 r0 s : Nat} (P : Part a m b n mid s0 r0) (h0 : s0 ≤ s) (h1 : s ≤ r0) : a ≤ s ∧ s ≤ m ∧ m ≤ n - s ∧ n - s ≤ b ∧ s ≤ mid ∧ mid ≤ n - s ∧ s + (n - s) - m = mid ∧ a < mid + 1 ∧ mid < b ∧ s ≤ n := by
  have h1 := P.am; have h2 := P.mb; have h3 := P.hmid; have h4 := P.hn; have h5 := P.h
  omega
/-- What stands behind the exchange of blocks. -/
theorem part_rot {d d' : Array α} {a m b n mid s0 r0 s : Nat} (P : Part a m b n mid s0 r0) (hb : b ≤ d.size) (S : Srch st d (n - 1) s0 r0 s s) (h1 : Ord st rk d a m) (h2 : Ord st rk d m b) (hl : LoHi rk d a m b) (h : Rot d d' s m (n - s)) :
    Ord st rk d' a s ∧ Ord st rk d' s mid ∧ Ord st rk d' mid (n - s) ∧ Ord st rk d' (n - s) b ∧ LoHi rk d' a s mid ∧ LoHi rk d' mid (n - s) b ∧ Crs st rk d' a mid b := by
  obtain ⟨b1, b2, b3, b4, b5, b6, b7, b8, b9, b10⟩ := P.bd S.h0 S.h2
  have hp := P.h; have hn := P.hn; have hm := P.hmid; have am := P.am; have mb := P.mb
  have h0 := S.h0; have h3 := S.h2
  have key := rot_parts (st := st) (rk := rk) h b1 b2 b3 b4 hb h1 h2 hl
    (by
      by_cases hs : s0 < s
      · have hlo := S.lo hs
        rw [show n - 1 - (s - 1) = n - s by omega] at hlo
        refine .inr (.inr (TL.up (hl (s - 1) (n - s) (by omega) (by omega) b3 (by omega)) hlo))
      · rcases hp with ⟨p1, p2, p3⟩ | ⟨p1, p2, p3⟩
        · exact .inr (.inl (by omega))
        · exact .inl (by omega))
    (by
      by_cases hs : s < r0
      · have hhi := S.hi hs
        rw [show n - 1 - s = n - s - 1 by omega] at hhi
        exact .inr (.inr (TL.of_lt hhi))
      · rcases hp with ⟨p1, p2, p3⟩ | ⟨p1, p2, p3⟩
        · exact .inr (.inl (by omega))
        · exact .inl (by omega))
  rw [b7] at key
  exact key
/-- Both halves merged: the whole is. -/
theorem part_join {d d1 d2 d3 : Array α} {a x b : Nat} (hx : a ≤ x) (hxb : x ≤ b) (hb : b ≤ d.size) (hp : PermIn a b d d1) (hc : Crs st rk d1 a x b) (p2 : PermIn a x d1 d2) (o2 : Ord st rk d2 a x) (p3 : PermIn x b d2 d3) (o3 : Ord st rk d3 x b) : PermIn a b d d3 ∧ Ord st rk d3 a b := by
  have z1 : d1.size = d.size := hp.1
  have z2 : d2.size = d1.size := p2.1
  refine ⟨permIn_trans _ _ _ _ _ (permIn_trans _ _ _ _ _ hp (permIn_mono _ _ _ _ _ _ (Nat.le_refl _) hxb (by omega) p2)) (permIn_mono _ _ _ _ _ _ hx (Nat.le_refl _) (by omega) p3), ?_⟩
  exact ord_join (ord_out p3 (.inl (Nat.le_refl _)) o2) o3 (crs_right p3 (by omega) (crs_left p2 (by omega) hc))
theorem ord_triv_l {d : Array α} {a s x : Nat} (h1 : Ord st rk d a s) (h2 : Ord st rk d s x) (h : ¬ (a < s ∧ s < x)) (ha : a ≤ s) (hs : s ≤ x) : Ord st rk d a x := by
  by_cases h3 : a < s
  · rw [show x = s by omega]; exact h1
  · rw [show a = s by omega]; exact h2
/-- A search in what is in order: first all that are less, then none. -/
structure Bs1 (st : α → Int) (d : Array α) (y : Int) (m b i j : Nat) : Prop where
  h0 : m ≤ i
  h1 : i ≤ j
  h2 : j ≤ b
  lo : ∀ k, m ≤ k → k < i → st d[k]! < y
  hi : ∀ k, j ≤ k → k < b → ¬ st d[k]! < y
theorem Bs1.start {d : Array α} {y : Int} {m b : Nat} (h : m ≤ b) : Bs1 st d y m b m b := ⟨Nat.le_refl _, h, Nat.le_refl _, fun k _ _ => by omega, fun k _ _ => by omega⟩
theorem Bs1.up {d : Array α} {y : Int} {m b i j c : Nat} (h : Bs1 st d y m b i j) (ho : Ord st rk d m b) (h1 : i ≤ c) (h2 : c < j) (hc : st d[c]! < y) : Bs1 st d y m b (c + 1) j := by
  have q0 := h.h0; have q1 := h.h1; have q2 := h.h2
  refine ⟨by omega, by omega, h.h2, fun k k1 k2 => ?_, h.hi⟩
  by_cases hk : k = c
  · rw [hk]; exact hc
  · have := ho k c k1 (by omega) (by omega)
    unfold TL at this; omega
theorem Bs1.down {d : Array α} {y : Int} {m b i j c : Nat} (h : Bs1 st d y m b i j) (ho : Ord st rk d m b) (h1 : i ≤ c) (h2 : c < j) (hc : ¬ st d[c]! < y) : Bs1 st d y m b i c := by
  have q0 := h.h0; have q1 := h.h1; have q2 := h.h2
  refine ⟨h.h0, h1, by omega, h.lo, fun k k1 k2 => ?_⟩
  by_cases hk : k = c
  · rw [hk]; exact hc
  · have := ho c k (by omega) (by omega) k2
    unfold TL at this; omega
structure Bs2 (st : α → Int) (d : Array α) (y : Int) (a m i j : Nat) : Prop where
  h0 : a ≤ i
  h1 : i ≤ j
  h2 : j ≤ m
  lo : ∀ k, a ≤ k → k < i → ¬ y < st d[k]!
  hi : ∀ k, j ≤ k → k < m → y < st d[k]!
theorem Bs2.start {d : Array α} {y : Int} {a m : Nat} (h : a ≤ m) : Bs2 st d y a m a m := ⟨Nat.le_refl _, h, Nat.le_refl _, fun k _ _ => by omega, fun k _ _ => by omega⟩
theorem Bs2.up {d : Array α} {y : Int} {a m i j c : Nat} (h : Bs2 st d y a m i j) (ho : Ord st rk d a m) (h1 : i ≤ c) (h2 : c < j) (hc : ¬ y < st d[c]!) : Bs2 st d y a m (c + 1) j := by
  have q0 := h.h0; have q1 := h.h1; have q2 := h.h2
  refine ⟨by omega, by omega, h.h2, fun k k1 k2 => ?_, h.hi⟩
  by_cases hk : k = c
  · rw [hk]; exact hc
  · have := ho k c k1 (by omega) (by omega)
    unfold TL at this; omega
theorem Bs2.down {d : Array α} {y : Int} {a m i j c : Nat} (h : Bs2 st d y a m i j) (ho : Ord st rk d a m) (h1 : i ≤ c) (h2 : c < j) (hc : y < st d[c]!) : Bs2 st d y a m i c := by
  have q0 := h.h0; have q1 := h.h1; have q2 := h.h2
  refine ⟨h.h0, h1, by omega, h.lo, fun k k1 k2 => ?_⟩
  by_cases hk : k = c
  · rw [hk]; exact hc
  · have := ho c k (by omega) (by omega) k2
    unfold TL at this; omega
end
end Go.Proofs.YtdbgfidnccpmdaaGreat

/-
  slices.SortStableFunc at a history's entries: the walk, whatever length.
-/
namespace Go.Proofs.YtdbgfidnccpmdaaGreat
open Go.RowKit Go.Shelf Go.Lib Go.Sort
set_option linter.unusedVariables false

theorem eisnan (a : Int) (w : World) : Calls Tryz.prog 214 #[.int .i64 a] w fun e w' => e = .returned (.bool false) ∧ w' = w := by
  go_enter Tryz.func214, Tryz.ntmps214
  go_wp2
  go_ret
  exact ⟨rfl, rfl⟩
theorem ecmp (a b : Int) (w : World) : Calls Tryz.prog 153 #[.int .i64 a, .int .i64 b] w fun e w' => e = .returned (.int .i64 (Lib.compareInt a b)) ∧ w' = w := by
  unfold Lib.compareInt
  by_cases h1 : a < b
  · rw [if_pos h1]
    go_enter Tryz.func153, Tryz.ntmps153
    go_wp2_with (go_at_call 214; refine (eisnan _ _).mono ?_; rintro e w1 ⟨rfl, rfl⟩)
    go_ret
    exact ⟨rfl, rfl⟩
  · rw [if_neg h1]
    by_cases h2 : b < a
    · rw [if_pos h2]
      go_enter Tryz.func153, Tryz.ntmps153
      go_wp2_with (go_at_call 214; refine (eisnan _ _).mono ?_; rintro e w1 ⟨rfl, rfl⟩)
      go_ret
      exact ⟨rfl, rfl⟩
    · rw [if_neg h2]
      go_enter Tryz.func153, Tryz.ntmps153
      go_wp2_with (go_at_call 214; refine (eisnan _ _).mono ?_; rintro e w1 ⟨rfl, rfl⟩)
      go_ret
      exact ⟨rfl, rfl⟩
def encE (x : En) : List Value := [.int .i64 x.st, .int .i64 x.ca, .int .i64 x.dr]
def cmpE (x y : En) : Int := Lib.compareInt x.st y.st
theorem eclosure (x y : En) (W : World) : Calls Tryz.prog 152 #[.agg #[.int .i64 x.st, .int .i64 x.ca, .int .i64 x.dr], .agg #[.int .i64 y.st, .int .i64 y.ca, .int .i64 y.dr]] W fun e w' => e = .returned (.int .i64 (cmpE x y)) ∧ ∃ q os', w' = grow (W.drewN q) os' := by
  have hcon := fun W' => ecmp x.st y.st W'
  unfold cmpE
  generalize Lib.compareInt x.st y.st = r at hcon ⊢
  go_enter Tryz.func152, Tryz.ntmps152
  go_wp2_with (go_at_call 153; refine (hcon _).mono ?_; rintro e w' ⟨rfl, rfl⟩)
  go_ret
  exact ⟨rfl, 0, _, by rw [alloc_eq_grow, alloc_eq_grow, grow_grow]; rfl⟩
theorem cmpLaysE (blk off size : Nat) (w : World) : CmpLays Tryz.prog 152 #[] encE 3 cmpE blk off size w := fun _ _ _ _ x y => eclosure x y _
theorem ltE (x y : En) : ltOf cmpE x y = bst En.st x y := by
  unfold ltOf cmpE Lib.compareInt bst
  by_cases h1 : x.st < y.st
  · simp [h1]
  · by_cases h2 : y.st < x.st <;> simp [h1, h2]
theorem cmpE_lt (x y : En) : (cmpE x y < 0) ↔ x.st < y.st := by
  have := ltE x y
  unfold ltOf bst at this
  rwa [decide_eq_decide] at this
theorem row_e {w0 : World} {blk off : Nat} {d : Array En} (hH : HoldsK encE 3 w0 blk off d) (hb : blk < w0.heap.size) : RowK encE 3 w0 blk off d := ⟨fun _ => rfl, fun x v hv => by simp [encE] at hv; rcases hv with rfl | rfl | rfl <;> rfl, hH, hb⟩
theorem cellsE {W : World} {blk off : Nat} {d : Array En} (h : HoldsK encE 3 W blk off d) (i : Nat) (hi : i < d.size) (e : En) (he : d[i]! = e) :
    (W.cell? ⟨blk, off + i * 3, none⟩ = some (.int .i64 e.st) ∧ W.cell? ⟨blk, off + i * 3 + 1, none⟩ = some (.int .i64 e.ca) ∧ W.cell? ⟨blk, off + i * 3 + 2, none⟩ = some (.int .i64 e.dr)) ∧
    (W.frozen? ⟨blk, off + i * 3, none⟩ = false ∧ W.frozen? ⟨blk, off + i * 3 + 1, none⟩ = false ∧ W.frozen? ⟨blk, off + i * 3 + 2, none⟩ = false) := by
  have hk : ∀ x, (encE x).length = 3 := fun _ => rfl
  have h0 := h.cell hi (c := 0) (by omega)
  have h1 := h.cell hi (c := 1) (by omega)
  have h2 := h.cell hi (c := 2) (by omega)
  rw [he] at h0 h1 h2
  exact ⟨⟨h0.1, h1.1, h2.1⟩, h0.2, h1.2, h2.2⟩
/-- An exchange, cell by cell. -/
theorem swp_cells {w0 W : World} {blk off : Nat} {d0 dk : Array En} (R : RowK encE 3 w0 blk off d0) (h : SWK encE 3 w0 blk off dk W) (i j : Nat) (hi : i < dk.size) (hj : j < dk.size) (x y : En) (hx : dk[i]! = x) (hy : dk[j]! = y) :
    SWK encE 3 w0 blk off (swp dk i j) ((((((W.setCell ⟨blk, off + i * 3, none⟩ (.int .i64 y.st)).setCell ⟨blk, off + i * 3 + 1, none⟩ (.int .i64 y.ca)).setCell ⟨blk, off + i * 3 + 2, none⟩ (.int .i64 y.dr)).setCell ⟨blk, off + j * 3, none⟩ (.int .i64 x.st)).setCell ⟨blk, off + j * 3 + 1, none⟩ (.int .i64 x.ca)).setCell ⟨blk, off + j * 3 + 2, none⟩ (.int .i64 x.dr)).drew := by
  have := h.swapped R i j hi hj
  rw [hx, hy] at this
  simp only [encE, World.setCells, World.setCell_drew] at this
  exact this
section
variable {w0 W : World} {blk off cap : Nat} {d0 dk : Array En} (R : RowK encE 3 w0 blk off d0) (h : SWK encE 3 w0 blk off dk W) (hs : dk.size = d0.size) (hsz : d0.size < 4611686018427387904)
include R h hs hsz
theorem eins (a b : Nat) (hab : a ≤ b) (hb : b ≤ dk.size) : Calls Tryz.prog 247 #[.slice (some ⟨blk, off, none⟩) dk.size cap, .int .i64 a, .int .i64 b, .func (.func 152) #[] #[]] W fun e w' => e = .returned (.tuple #[]) ∧ SWK encE 3 w0 blk off (insertionSort (bst En.st) dk a b) w' := by
  have eg : ∀ args w, (callFunc 152 args).run Tryz.prog w = .ok (.enter 152 args) w := fun args w => by kernel_rfl
  refine (AnyQ.insertionSortCmpFunc insW 3 Tryz.isAgg176 Tryz.sizeOf176 encE R.hk R.h1 cmpE 152 #[] blk off cap a b dk W eg (cmpLaysE blk off dk.size W) (h.holds R.hblk R.hH hs) (Nat.lt_of_lt_of_le R.hblk h.le) hab hb (by omega)).mono ?_
  rintro e w' ⟨rfl, n, os, rfl⟩
  refine ⟨rfl, ?_⟩
  have e : insertionSort (ltOf cmpE) dk a b = insertionSort (bst En.st) dk a b := by congr 1; funext x y; exact ltE x y
  rw [e]
  exact h.on R.hblk n _ os (by
    have := (insertionSort_perm (bst En.st) dk a b hab hb).1; exact this)
set_option maxHeartbeats 4000000 in
set_option maxRecDepth 1000000 in
theorem eswr (a b n : Nat) (hab : a + n ≤ b) (hb : b + n ≤ dk.size) (f : Value) :
    Calls Tryz.prog 265 #[.slice (some ⟨blk, off, none⟩) dk.size cap, .int .i64 a, .int .i64 b, .int .i64 n, f] W fun e w' => e = .returned (.tuple #[]) ∧ ∃ d', Swr dk d' a b n ∧ SWK encE 3 w0 blk off d' w' := by
  have HH := Lib.hid h; have HS := Lib.hid hs
  clear h hs
  go_enter Tryz.func265, Tryz.ntmps265
  go_wp2
  go_loopw [10] (fun v wr => ∃ (i : Nat) (d' : Array En), i ≤ n ∧ v = .int .i64 i ∧ Hid (Swr dk d' a b i ∧ SWK encE 3 w0 blk off d' wr)) (fun v _ => n - (intOf v).toNat)
  case atStart => exact ⟨0, dk, by omega, rfl, ⟨Swr.zero _ _ _ (by omega), HH.out⟩⟩
  case round =>
    obtain ⟨i, d', hi, rfl, HR⟩ := hrel
    by_cases hlt : i < n
    · have hlt' : (i : Int) < n := by omega
      have hsd : d'.size = dk.size := HR.out.1.perm.1
      have hsd0 : d'.size = d0.size := hsd.trans HS.out
      have HC := HR.out.2.holds R.hblk R.hH hsd0
      obtain ⟨x, hx⟩ : ∃ x, d'[a + i]! = x := ⟨_, rfl⟩
      obtain ⟨y, hy⟩ : ∃ y, d'[b + i]! = y := ⟨_, rfl⟩
      have sw := swp_cells R HR.out.2 (a + i) (b + i) (by omega) (by omega) x y hx hy
      obtain ⟨⟨x0, x1, x2⟩, u0, u1, u2⟩ := cellsE HC (a + i) (by omega) x hx
      obtain ⟨⟨y0, y1, y2⟩, v0, v1, v2⟩ := cellsE HC (b + i) (by omega) y hy
      have SW := Lib.hid sw
      have HN := Lib.hid (HR.out.1.next (by omega) (by omega))
      have i1 : (a : Int) + i < dk.size := by omega
      have i2 : (b : Int) + i < dk.size := by omega
      have i3 : (0 : Int) ≤ (a : Int) + i := by omega
      have i4 : (0 : Int) ≤ (b : Int) + i := by omega
      have n1 : ((a : Int) + i).toNat = a + i := by omega
      have n2 : ((b : Int) + i).toNat = b + i := by omega
      have hd := HS.out
      have g1 : dk.size < 4611686018427387904 := by omega
      have HLT := Lib.hid hlt
      clear sw hx hy hsd hsd0 hd HC
      have mixed := insW.mixed
      go_wp2_with fail
      go_big_region_o
      obtain ⟨w2, hw2⟩ : ∃ w2, w2 = ((((((wr.setCell ⟨blk, off + (a + i) * 3, none⟩ (.int .i64 y.st)).setCell ⟨blk, off + (a + i) * 3 + 1, none⟩ (.int .i64 y.ca)).setCell ⟨blk, off + (a + i) * 3 + 2, none⟩ (.int .i64 y.dr)).setCell ⟨blk, off + (b + i) * 3, none⟩ (.int .i64 x.st)).setCell ⟨blk, off + (b + i) * 3 + 1, none⟩ (.int .i64 x.ca)).setCell ⟨blk, off + (b + i) * 3 + 2, none⟩ (.int .i64 x.dr)).drew := ⟨_, rfl⟩
      rw [← hw2] at SW ⊢
      clear hw2
      go_wp2
      go_roundw
      case rel => exact ⟨i + 1, swp d' (a + i) (b + i), by have := HLT.out; omega, by go_num, ⟨HN.out, SW.out⟩⟩
      case measure => have := HLT.out; simp [intOf]; omega
    · obtain rfl : i = n := by omega
      go_wp2
      go_end0
      exact ⟨rfl, d', HR.out.1, HR.out.2⟩
set_option maxHeartbeats 4000000 in
set_option maxRecDepth 1000000 in
theorem erot (a m b : Nat) (ham : a < m) (hmb : m < b) (hb : b ≤ dk.size) (f : Value) :
    Calls Tryz.prog 260 #[.slice (some ⟨blk, off, none⟩) dk.size cap, .int .i64 a, .int .i64 m, .int .i64 b, f] W fun e w' => e = .returned (.tuple #[]) ∧ ∃ d', Rot dk d' a m b ∧ SWK encE 3 w0 blk off d' w' := by
  have HH := Lib.hid h; have HS := Lib.hid hs
  have g1 : dk.size < 4611686018427387904 := by omega
  clear h hs
  go_enter Tryz.func260, Tryz.ntmps260
  go_wp2
  go_loopw [10, 11] (fun v u wr => ∃ (i j : Nat) (d' : Array En), v = .int .i64 i ∧ u = .int .i64 j ∧ (0 < i ∧ 0 < j ∧ a + i ≤ m ∧ m + j ≤ b) ∧ Hid (d'.size = dk.size ∧ SWK encE 3 w0 blk off d' wr ∧ ∀ e, Rot d' e (m - i) m (m + j) → Rot dk e a m b)) (fun v u _ => (intOf v).toNat + (intOf u).toNat)
  case atStart => exact ⟨m - a, b - m, dk, by congr 1; omega, by congr 1; omega, by omega, ⟨rfl, HH.out, fun e he => by rw [show m - (m - a) = a by omega, show m + (b - m) = b by omega] at he; exact he⟩⟩
  case round =>
    obtain ⟨i, j, d', rfl, rfl, hij, HR⟩ := hrel
    have hsz' : d'.size = dk.size := HR.out.1
    by_cases hne : i = j
    · subst hne
      have hc := eswr (cap := cap) R HR.out.2.1 (hsz'.trans HS.out) hsz (m - i) m i (by omega) (by omega) f
      rw [hsz', show ((m - i : Nat) : Int) = (m : Int) - i by omega] at hc
      have HC := Lib.hid hc
      clear hc
      go_wp2_with (go_at_call 265; refine HC.out.mono ?_; rintro e w1 ⟨rfl, e1, hsw, hS⟩)
      go_end0
      exact ⟨rfl, e1, HR.out.2.2 e1 (Rot.same hsw (by omega)), hS⟩
    · by_cases hgt : j < i
      · have hgt' : (j : Int) < i := by omega
        have hc := eswr (cap := cap) R HR.out.2.1 (hsz'.trans HS.out) hsz (m - i) m j (by omega) (by omega) f
        rw [hsz', show ((m - i : Nat) : Int) = (m : Int) - i by omega] at hc
        have HC := Lib.hid hc
        clear hc
        go_wp2_with (go_at_call 265; refine HC.out.mono ?_; rintro e w1 ⟨rfl, e1, hsw, hS⟩)
        have HSW := Lib.hid hsw; have HS1 := Lib.hid hS
        clear hsw hS
        go_roundw
        case rel => exact ⟨i - j, j, e1, by congr 1; omega, rfl, by omega, ⟨by rw [HSW.out.perm.1]; exact hsz', HS1.out, fun e he => HR.out.2.2 e (Rot.left HSW.out (by omega) (by omega) (by omega) he)⟩⟩
        case measure => simp [intOf]; omega
      · have hgt' : ¬ (j : Int) < i := by omega
        have hc := eswr (cap := cap) R HR.out.2.1 (hsz'.trans HS.out) hsz (m - i) (m + j - i) i (by omega) (by omega) f
        rw [hsz', show ((m - i : Nat) : Int) = (m : Int) - i by omega, show ((m + j - i : Nat) : Int) = (m : Int) + j - i by omega] at hc
        have HC := Lib.hid hc
        clear hc
        go_wp2_with (go_at_call 265; refine HC.out.mono ?_; rintro e w1 ⟨rfl, e1, hsw, hS⟩)
        have HSW := Lib.hid hsw; have HS1 := Lib.hid hS
        clear hsw hS
        go_roundw
        case rel => exact ⟨i, j - i, e1, rfl, by congr 1; omega, by omega, ⟨by rw [HSW.out.perm.1]; exact hsz', HS1.out, fun e he => HR.out.2.2 e (Rot.right HSW.out (by omega) (by omega) (by omega) he)⟩⟩
        case measure => simp [intOf]; omega
end
end Go.Proofs.YtdbgfidnccpmdaaGreat

/-
  slices.symMergeCmpFunc at a history's entries.
-/
namespace Go.Proofs.YtdbgfidnccpmdaaGreat
open Go.RowKit Go.Shelf Go.Lib Go.Sort
set_option linter.unusedVariables false

theorem half_i (i j : Nat) (h : i + j < 9223372036854775808) : IntKind.u64.wrap ((i : Int) + j) = (i : Int) + j ∧ ((i : Int) + j) / 2 = (((i + j) / 2 : Nat) : Int) ∧ IntKind.i64.wrap ((((i + j) / 2 : Nat) : Int)) = (((i + j) / 2 : Nat) : Int) := by
  refine ⟨?_, by omega, ?_⟩
  · rw [IntKind.wrap_u64]; omega
  · rw [IntKind.wrap_i64]; omega
/-- An element's cells, whatever was made since. -/
theorem cellsG {w0 W : World} {blk off : Nat} {d0 dk : Array En} (R : RowK encE 3 w0 blk off d0) (h : SWK encE 3 w0 blk off dk W) (hs : dk.size = d0.size) (i : Nat) (hi : i < dk.size) (e : En) (he : dk[i]! = e) (n : Nat) (os : Array Obj) :
    (grow (W.drewN n) os).cell? ⟨blk, off + i * 3, none⟩ = some (.int .i64 e.st) ∧ (grow (W.drewN n) os).cell? ⟨blk, off + i * 3 + 1, none⟩ = some (.int .i64 e.ca) ∧ (grow (W.drewN n) os).cell? ⟨blk, off + i * 3 + 2, none⟩ = some (.int .i64 e.dr) :=
  (cellsE ((h.grown n os).holds R.hblk R.hH hs) i hi e he).1
section
variable {w0 : World} {blk off cap : Nat} {d0 : Array En} (R : RowK encE 3 w0 blk off d0) (hsz : d0.size < 4611686018427387904)
include R hsz
def MrgPost (w0 : World) (blk off : Nat) (dk : Array En) (a b : Nat) (e : Ending) (w' : World) : Prop := e = .returned (.tuple #[]) ∧ ∃ d', PermIn a b dk d' ∧ Ord En.st En.rk d' a b ∧ SWK encE 3 w0 blk off d' w'
set_option maxHeartbeats 4000000 in
set_option maxRecDepth 1000000 in
theorem emrg_left {W : World} {dk : Array En} (h : SWK encE 3 w0 blk off dk W) (hs : dk.size = d0.size) (a m b : Nat) (ham : m = a + 1) (hmb : m < b) (hb : b ≤ dk.size) (h2 : Ord En.st En.rk dk m b) (hl : LoHi En.rk dk a m b) :
    Calls Tryz.prog 248 #[.slice (some ⟨blk, off, none⟩) dk.size cap, .int .i64 a, .int .i64 m, .int .i64 b, .func (.func 152) #[] #[]] W (MrgPost w0 blk off dk a b) := by
  have S0 := Lib.hid h; have HS := Lib.hid hs; have H2 := Lib.hid h2; have HL := Lib.hid hl
  have g1 : dk.size < 4611686018427387904 := by omega
  have mixed := insW.mixed
  obtain ⟨ea, hea⟩ : ∃ e, dk[a]! = e := ⟨_, rfl⟩
  have HEA := Lib.hid hea; have HAM := Lib.hid ham
  have em : (m : Int) - a = 1 := by omega
  have am : a < m := by omega
  clear h hs h2 hl hea ham
  go_enter Tryz.func248, Tryz.ntmps248
  go_wp2
  go_loopw [10, 11, 12] (fun v u _ wr => ∃ (i j : Nat), v = .int .i64 i ∧ u = .int .i64 j ∧ Bs1 En.st dk ea.st m b i j ∧ Hid (SWK encE 3 w0 blk off dk wr)) (fun v u _ _ => (intOf u).toNat - (intOf v).toNat)
  case atStart => exact ⟨m, b, rfl, rfl, Bs1.start (by omega), S0⟩
  case round =>
    obtain ⟨i, j, rfl, rfl, BS, S1⟩ := hrel
    have b0 := BS.h0; have b1 := BS.h1; have b2 := BS.h2
    have HB := Lib.hid BS
    clear BS S0
    by_cases hlt : i < j
    · have hlt' : (i : Int) < j := by omega
      obtain ⟨e1, e2, e3⟩ := half_i i j (by omega)
      obtain ⟨c, hc⟩ : ∃ c, c = (i + j) / 2 := ⟨_, rfl⟩
      rw [← hc] at e2 e3
      have c1 : i ≤ c := by omega
      have c2 : c < j := by omega
      obtain ⟨x, hx⟩ : ∃ x, dk[c]! = x := ⟨_, rfl⟩
      have k1 : (c : Int) < dk.size := by omega
      have k2 : (a : Int) < dk.size := by omega
      have la := fun n os => (cellsG R S1.out HS.out c (by omega) x hx n os).1
      have lb := fun n os => (cellsG R S1.out HS.out c (by omega) x hx n os).2.1
      have lc := fun n os => (cellsG R S1.out HS.out c (by omega) x hx n os).2.2
      have ld := fun n os => (cellsG R S1.out HS.out a (by omega) ea HEA.out n os).1
      have le := fun n os => (cellsG R S1.out HS.out a (by omega) ea HEA.out n os).2.1
      have lf := fun n os => (cellsG R S1.out HS.out a (by omega) ea HEA.out n os).2.2
      have hcl := fun W => eclosure x ea W
      have HX := Lib.hid hx; have HCC := Lib.hid hc
      clear hx hc
      by_cases hv : x.st < ea.st
      · have hd : cmpE x ea < 0 := (cmpE_lt x ea).2 hv
        have HV := Lib.hid hv
        generalize cmpE x ea = cv at hcl hd
        clear hv
        go_wp2_with fail
        go_quiet_grown (first | (go_at_call 152; refine Calls.grown_of (hcl _)))
        have S2 := Lib.hid (S1.out.grown nq osq)
        clear la lb lc ld le lf hcl S1
        generalize grow (wr.drewN nq) osq = w2 at S2 ⊢
        go_wp2
        go_roundw
        case rel => exact ⟨c + 1, j, by go_num, rfl, HB.out.up H2.out c1 c2 (by rw [HX.out]; have := HV.out; omega), S2⟩
        case measure => simp [intOf]; omega
      · have hd : ¬ cmpE x ea < 0 := fun c => hv ((cmpE_lt x ea).1 c)
        have HV := Lib.hid hv
        generalize cmpE x ea = cv at hcl hd
        clear hv
        go_wp2_with fail
        go_quiet_grown (first | (go_at_call 152; refine Calls.grown_of (hcl _)))
        have S2 := Lib.hid (S1.out.grown nq osq)
        clear la lb lc ld le lf hcl S1
        generalize grow (wr.drewN nq) osq = w2 at S2 ⊢
        go_wp2
        go_roundw
        case rel => exact ⟨i, c, rfl, rfl, HB.out.down H2.out c1 c2 (by rw [HX.out]; have := HV.out; omega), S2⟩
        case measure => simp [intOf]; omega
    · have hij : i = j := by omega
      have hlt' : ¬ (i : Int) < j := by omega
      have HIJ := Lib.hid hij
      clear hij hlt
      go_wp2
      go_loopw [13] (fun v wr => ∃ (k : Nat) (d' : Array En), v = .int .i64 k ∧ (a ≤ k ∧ k + 1 ≤ i) ∧ Hid (Rot dk d' a (a + 1) (k + 1) ∧ SWK encE 3 w0 blk off d' wr)) (fun v _ => i - (intOf v).toNat)
      case atStart => exact ⟨a, dk, rfl, by have := HAM.out; omega, ⟨Rot.idR dk a (a + 1), S1.out⟩⟩
      case round =>
        clear S1
        obtain ⟨k, d', rfl, hk, HR⟩ := hrel
        by_cases hkl : k + 1 < i
        · have hkl' : (k : Int) < (i : Int) - 1 := by omega
          have hsd : d'.size = dk.size := HR.out.1.perm.1
          have hsd0 : d'.size = d0.size := hsd.trans HS.out
          have HC := HR.out.2.holds R.hblk R.hH hsd0
          obtain ⟨x, hx⟩ : ∃ x, d'[k]! = x := ⟨_, rfl⟩
          obtain ⟨y, hy⟩ : ∃ y, d'[k + 1]! = y := ⟨_, rfl⟩
          have sw := swp_cells R HR.out.2 k (k + 1) (by omega) (by omega) x y hx hy
          obtain ⟨⟨x0, x1, x2⟩, u0, u1, u2⟩ := cellsE HC k (by omega) x hx
          obtain ⟨⟨y0, y1, y2⟩, v0, v1, v2⟩ := cellsE HC (k + 1) (by omega) y hy
          have SW := Lib.hid sw
          have HN := Lib.hid (HR.out.1.stepR (by omega) (by omega))
          have i1 : (k : Int) < dk.size := by omega
          have i2 : (k : Int) + 1 < dk.size := by omega
          have i3 : (0 : Int) ≤ (k : Int) + 1 := by omega
          have n2 : ((k : Int) + 1).toNat = k + 1 := by omega
          have HK := Lib.hid hkl
          clear sw hx hy hsd hsd0 HC HR
          go_wp2_with fail
          go_big_region_o
          obtain ⟨w2, hw2⟩ : ∃ w2, w2 = ((((((wr.setCell ⟨blk, off + k * 3, none⟩ (.int .i64 y.st)).setCell ⟨blk, off + k * 3 + 1, none⟩ (.int .i64 y.ca)).setCell ⟨blk, off + k * 3 + 2, none⟩ (.int .i64 y.dr)).setCell ⟨blk, off + (k + 1) * 3, none⟩ (.int .i64 x.st)).setCell ⟨blk, off + (k + 1) * 3 + 1, none⟩ (.int .i64 x.ca)).setCell ⟨blk, off + (k + 1) * 3 + 2, none⟩ (.int .i64 x.dr)).drew := ⟨_, rfl⟩
          rw [← hw2] at SW ⊢
          clear hw2
          go_wp2
          go_roundw
          case rel => exact ⟨k + 1, swp d' k (k + 1), by go_num, by have := HK.out; omega, ⟨HN.out, SW.out⟩⟩
          case measure => have := HK.out; simp [intOf]; omega
        · have hkl' : ¬ (k : Int) < (i : Int) - 1 := by omega
          have HK := Lib.hid (show k + 1 = i by omega)
          clear hkl
          go_wp2
          go_end0
          have hr := HR.out.1
          rw [HK.out] at hr
          have hB := HB.out
          have hm := HAM.out
          rw [← HIJ.out] at hB
          rw [← hm] at hr
          obtain ⟨p1, p2⟩ := one_left (st := En.st) (rk := En.rk) hm hB.h0 hB.h2 hb H2.out HL.out hr (fun k k1 k2 => by rw [HEA.out]; exact hB.lo k k1 k2) (fun k k1 k2 => by rw [HEA.out]; exact hB.hi k k1 k2)
          exact ⟨rfl, d', p1, p2, HR.out.2⟩
set_option maxHeartbeats 4000000 in
set_option maxRecDepth 1000000 in
theorem emrg_right {W : World} {dk : Array En} (h : SWK encE 3 w0 blk off dk W) (hs : dk.size = d0.size) (a m b : Nat) (ham : a + 1 < m) (hmb : b = m + 1) (hb : b ≤ dk.size) (h1 : Ord En.st En.rk dk a m) (hl : LoHi En.rk dk a m b) :
    Calls Tryz.prog 248 #[.slice (some ⟨blk, off, none⟩) dk.size cap, .int .i64 a, .int .i64 m, .int .i64 b, .func (.func 152) #[] #[]] W (MrgPost w0 blk off dk a b) := by
  have S0 := Lib.hid h; have HS := Lib.hid hs; have H1 := Lib.hid h1; have HL := Lib.hid hl
  have g1 : dk.size < 4611686018427387904 := by omega
  have mixed := insW.mixed
  obtain ⟨ea, hea⟩ : ∃ e, dk[m]! = e := ⟨_, rfl⟩
  have HEA := Lib.hid hea; have HMB := Lib.hid hmb
  have em : ((m : Int) - a == 1) = false := beq_eq_false_iff_ne.2 (by omega)
  have em2 : (b : Int) - m = 1 := by omega
  have am : m < b := by omega
  clear h hs h1 hl hea hmb
  go_enter Tryz.func248, Tryz.ntmps248
  go_wp2
  go_loopw [14, 15, 16] (fun v u _ wr => ∃ (i j : Nat), v = .int .i64 i ∧ u = .int .i64 j ∧ Bs2 En.st dk ea.st a m i j ∧ Hid (SWK encE 3 w0 blk off dk wr)) (fun v u _ _ => (intOf u).toNat - (intOf v).toNat)
  case atStart => exact ⟨a, m, rfl, rfl, Bs2.start (by omega), S0⟩
  case round =>
    obtain ⟨i, j, rfl, rfl, BS, S1⟩ := hrel
    have b0 := BS.h0; have b1 := BS.h1; have b2 := BS.h2
    have HB := Lib.hid BS
    clear BS S0
    by_cases hlt : i < j
    · have hlt' : (i : Int) < j := by omega
      obtain ⟨e1, e2, e3⟩ := half_i i j (by omega)
      obtain ⟨c, hc⟩ : ∃ c, c = (i + j) / 2 := ⟨_, rfl⟩
      rw [← hc] at e2 e3
      have c1 : i ≤ c := by omega
      have c2 : c < j := by omega
      obtain ⟨x, hx⟩ : ∃ x, dk[c]! = x := ⟨_, rfl⟩
      have k1 : (c : Int) < dk.size := by omega
      have k2 : (m : Int) < dk.size := by omega
      have la := fun n os => (cellsG R S1.out HS.out c (by omega) x hx n os).1
      have lb := fun n os => (cellsG R S1.out HS.out c (by omega) x hx n os).2.1
      have lc := fun n os => (cellsG R S1.out HS.out c (by omega) x hx n os).2.2
      have ld := fun n os => (cellsG R S1.out HS.out m (by omega) ea HEA.out n os).1
      have le := fun n os => (cellsG R S1.out HS.out m (by omega) ea HEA.out n os).2.1
      have lf := fun n os => (cellsG R S1.out HS.out m (by omega) ea HEA.out n os).2.2
      have hcl := fun W => eclosure ea x W
      have HX := Lib.hid hx; have HCC := Lib.hid hc
      clear hx hc
      by_cases hv : ea.st < x.st
      · have hd : cmpE ea x < 0 := (cmpE_lt ea x).2 hv
        have HV := Lib.hid hv
        generalize cmpE ea x = cv at hcl hd
        have hd2 : (!decide (cv < 0)) = false := by rw [decide_eq_true hd]; rfl
        clear hv
        go_wp2_with fail
        go_quiet_grown (first | (go_at_call 152; refine Calls.grown_of (hcl _)))
        have S2 := Lib.hid (S1.out.grown nq osq)
        clear la lb lc ld le lf hcl S1
        generalize grow (wr.drewN nq) osq = w2 at S2 ⊢
        go_wp2
        go_roundw
        case rel => exact ⟨i, c, rfl, rfl, HB.out.down H1.out c1 c2 (by rw [HX.out]; have := HV.out; omega), S2⟩
        case measure => simp [intOf]; omega
      · have hd : ¬ cmpE ea x < 0 := fun c => hv ((cmpE_lt ea x).1 c)
        have HV := Lib.hid hv
        generalize cmpE ea x = cv at hcl hd
        have hd2 : (!decide (cv < 0)) = true := by rw [decide_eq_false hd]; rfl
        clear hv
        go_wp2_with fail
        go_quiet_grown (first | (go_at_call 152; refine Calls.grown_of (hcl _)))
        have S2 := Lib.hid (S1.out.grown nq osq)
        clear la lb lc ld le lf hcl S1
        generalize grow (wr.drewN nq) osq = w2 at S2 ⊢
        go_wp2
        go_roundw
        case rel => exact ⟨c + 1, j, by go_num, rfl, HB.out.up H1.out c1 c2 (by rw [HX.out]; have := HV.out; omega), S2⟩
        case measure => simp [intOf]; omega
    · have hij : i = j := by omega
      have hlt' : ¬ (i : Int) < j := by omega
      have HIJ := Lib.hid hij
      clear hij hlt
      go_wp2
      go_loopw [17] (fun v wr => ∃ (k : Nat) (d' : Array En), v = .int .i64 k ∧ (i ≤ k ∧ k ≤ m) ∧ Hid (Rot dk d' k m (m + 1) ∧ SWK encE 3 w0 blk off d' wr)) (fun v _ => (intOf v).toNat - i)
      case atStart => exact ⟨m, dk, rfl, by omega, ⟨Rot.idL dk m (m + 1), S1.out⟩⟩
      case round =>
        clear S1
        obtain ⟨k, d', rfl, hk, HR⟩ := hrel
        by_cases hkl : i < k
        · obtain ⟨k, rfl⟩ : ∃ q, k = q + 1 := ⟨k - 1, by omega⟩
          have hkl' : (k : Int) + 1 > (i : Int) := by omega
          have hsd : d'.size = dk.size := HR.out.1.perm.1
          have hsd0 : d'.size = d0.size := hsd.trans HS.out
          have HC := HR.out.2.holds R.hblk R.hH hsd0
          obtain ⟨x, hx⟩ : ∃ x, d'[k + 1]! = x := ⟨_, rfl⟩
          obtain ⟨y, hy⟩ : ∃ y, d'[k]! = y := ⟨_, rfl⟩
          have sw := swp_cells R HR.out.2 (k + 1) k (by omega) (by omega) x y hx hy
          obtain ⟨⟨x0, x1, x2⟩, u0, u1, u2⟩ := cellsE HC (k + 1) (by omega) x hx
          obtain ⟨⟨y0, y1, y2⟩, v0, v1, v2⟩ := cellsE HC k (by omega) y hy
          have SW := Lib.hid sw
          have HN := Lib.hid (HR.out.1.stepL (by omega) (by omega))
          have i1 : (k : Int) < dk.size := by omega
          have i2 : (k : Int) + 1 < dk.size := by omega
          have i3 : (0 : Int) ≤ (k : Int) + 1 := by omega
          have n2 : ((k : Int) + 1).toNat = k + 1 := by omega
          have HK := Lib.hid hkl
          clear sw hx hy hsd hsd0 HC HR
          go_wp2_with fail
          go_big_region_o
          obtain ⟨w2, hw2⟩ : ∃ w2, w2 = ((((((wr.setCell ⟨blk, off + (k + 1) * 3, none⟩ (.int .i64 y.st)).setCell ⟨blk, off + (k + 1) * 3 + 1, none⟩ (.int .i64 y.ca)).setCell ⟨blk, off + (k + 1) * 3 + 2, none⟩ (.int .i64 y.dr)).setCell ⟨blk, off + k * 3, none⟩ (.int .i64 x.st)).setCell ⟨blk, off + k * 3 + 1, none⟩ (.int .i64 x.ca)).setCell ⟨blk, off + k * 3 + 2, none⟩ (.int .i64 x.dr)).drew := ⟨_, rfl⟩
          rw [← hw2] at SW ⊢
          clear hw2
          go_wp2
          go_roundw
          case rel => exact ⟨k, swp d' (k + 1) k, by go_num, by have := HK.out; omega, ⟨HN.out, SW.out⟩⟩
          case measure => have := HK.out; simp [intOf]; omega
        · have hkl' : ¬ (k : Int) > (i : Int) := by omega
          have HK := Lib.hid (show k = i by omega)
          clear hkl
          go_wp2
          go_end0
          have hr := HR.out.1
          rw [HK.out] at hr
          have hB := HB.out
          have hm := HMB.out
          rw [← HIJ.out] at hB
          rw [← hm] at hr
          obtain ⟨p1, p2⟩ := one_right (st := En.st) (rk := En.rk) hm hB.h0 hB.h2 hb H1.out HL.out hr (fun k k1 k2 => by rw [HEA.out]; exact hB.lo k k1 k2) (fun k k1 k2 => by rw [HEA.out]; exact hB.hi k k1 k2)
          exact ⟨rfl, d', p1, p2, HR.out.2⟩
end
end Go.Proofs.YtdbgfidnccpmdaaGreat

/-
  slices.symMergeCmpFunc, and the whole stable sort, at a history's entries.
-/
namespace Go.Proofs.YtdbgfidnccpmdaaGreat
open Go.RowKit Go.Shelf Go.Lib Go.Sort
set_option linter.unusedVariables false

theorem Rot.none {α : Type} [Inhabited α] (d : Array α) {s m e : Nat} (h : (decide (s < m) && decide (m < e)) = false) (h1 : s ≤ m) (h2 : m ≤ e) : Rot d d s m e := by
  simp only [Bool.and_eq_false_iff, decide_eq_false_iff_not] at h
  rcases h with h | h
  · rw [show s = m by omega]; exact Rot.idL d m e
  · rw [show e = m by omega]; exact Rot.idR d s m
section
variable {w0 : World} {blk off cap : Nat} {d0 : Array En} (R : RowK encE 3 w0 blk off d0) (hsz : d0.size < 4611686018427387904)
include R hsz
/-- A merge of at least two on either side, where shorter ones are merged by the contract. -/
def MrgAll (w0 : World) (blk off cap : Nat) (d0 : Array En) (n : Nat) : Prop := ∀ (W : World) (dk : Array En) (a m b : Nat), SWK encE 3 w0 blk off dk W → dk.size = d0.size → a < m → m < b → b ≤ dk.size → b - a < n → Ord En.st En.rk dk a m → Ord En.st En.rk dk m b → LoHi En.rk dk a m b →
    Calls Tryz.prog 248 #[.slice (some ⟨blk, off, none⟩) dk.size cap, .int .i64 a, .int .i64 m, .int .i64 b, .func (.func 152) #[] #[]] W (MrgPost w0 blk off dk a b)
set_option maxHeartbeats 8000000 in
set_option maxRecDepth 1000000 in
theorem emrg_two {W : World} {dk : Array En} (h : SWK encE 3 w0 blk off dk W) (hs : dk.size = d0.size) (a m b : Nat) (ham : a + 1 < m) (hmb : m + 1 < b) (hb : b ≤ dk.size) (h1 : Ord En.st En.rk dk a m) (h2 : Ord En.st En.rk dk m b) (hl : LoHi En.rk dk a m b) (IH : MrgAll w0 blk off cap d0 (b - a)) :
    Calls Tryz.prog 248 #[.slice (some ⟨blk, off, none⟩) dk.size cap, .int .i64 a, .int .i64 m, .int .i64 b, .func (.func 152) #[] #[]] W (MrgPost w0 blk off dk a b) := by
  have S0 := Lib.hid h; have HS := Lib.hid hs; have H1 := Lib.hid h1; have H2 := Lib.hid h2; have HL := Lib.hid hl; have HI := Lib.hid IH
  have g1 : dk.size < 4611686018427387904 := by omega
  have mixed := insW.mixed
  have hp := Part.of (a := a) (m := m) (b := b) (by omega) (by omega)
  obtain ⟨m1, m2, m3⟩ := half_i a b (by omega)
  obtain ⟨mid, hmid⟩ : ∃ x, x = (a + b) / 2 := ⟨_, rfl⟩
  rw [← hmid] at hp m2 m3
  obtain ⟨n, hn⟩ : ∃ x, x = mid + m := ⟨_, rfl⟩
  rw [← hn] at hp
  obtain ⟨s0, hs0⟩ : ∃ x, x = (if mid < m then n - b else a) := ⟨_, rfl⟩
  obtain ⟨r0, hr0⟩ : ∃ x, x = (if mid < m then mid else m) := ⟨_, rfl⟩
  rw [← hs0, ← hr0] at hp
  have hsr : s0 ≤ r0 ∧ n ≤ dk.size + dk.size ∧ r0 ≤ mid ∧ r0 ≤ m ∧ mid < b ∧ a < mid ∧ n - b ≤ s0 ∧ n - a ≤ b + m ∧ n - 1 - s0 < b := by
    rcases hp.h with ⟨p1, p2, p3⟩ | ⟨p1, p2, p3⟩ <;> omega
  obtain ⟨q1, q2, q3, q4, q5, q6, q7, q8, q9⟩ := hsr
  have n1 : (mid : Int) + m = n := by omega
  have HP := Lib.hid hp; have HMID := Lib.hid hmid; have HN := Lib.hid hn
  have em : ((m : Int) - a == 1) = false := beq_eq_false_iff_ne.2 (by omega)
  have em2 : ((b : Int) - m == 1) = false := beq_eq_false_iff_ne.2 (by omega)
  have am : a < m := by omega
  have mb : m < b := by omega
  have nb : m ≤ n := by omega
  clear h hs h1 h2 hl IH hp hmid hn ham hmb
  go_enter Tryz.func248, Tryz.ntmps248
  go_upto_if 140 with (fail)
  go_cut [20, 21] from 138 to 146 (fun v20 v21 wx => v20 = .int .i64 s0 ∧ v21 = .int .i64 r0 ∧ wx = W)
  case first =>
    by_cases hmm : mid < m
    · have hmm' : (m : Int) > mid := by omega
      have es : (s0 : Int) = (n : Int) - b := by rw [hs0, if_pos hmm]; rcases HP.out.h with ⟨p1, p2, p3⟩ | ⟨p1, p2, p3⟩ <;> omega
      have er : (r0 : Int) = mid := by rw [hr0, if_pos hmm]
      have HH := Lib.hid (And.intro es er)
      clear hmm es er
      go_wp2
      all_goals go_meet
      all_goals exact ⟨by rw [HH.out.1], by rw [HH.out.2], rfl⟩
    · have hmm' : ¬ (m : Int) > mid := by omega
      have es : (s0 : Int) = a := by rw [hs0, if_neg hmm]
      have er : (r0 : Int) = m := by rw [hr0, if_neg hmm]
      have HH := Lib.hid (And.intro es er)
      clear hmm es er
      go_wp2
      all_goals go_meet
      all_goals exact ⟨by rw [HH.out.1], by rw [HH.out.2], rfl⟩
  case rest =>
    obtain ⟨rfl, rfl, rfl⟩ := hcut
    clear hs0 hr0
    go_wp2
    go_loopw [20, 21, 23] (fun v u _ wr => ∃ (s r : Nat), v = .int .i64 s ∧ u = .int .i64 r ∧ Srch En.st dk (n - 1) s0 r0 s r ∧ Hid (SWK encE 3 w0 blk off dk wr)) (fun v u _ _ => (intOf u).toNat - (intOf v).toNat)
    case atStart => exact ⟨s0, r0, rfl, rfl, Srch.start q1, S0⟩
    case round =>
      clear S0
      obtain ⟨s, r, rfl, rfl, BS, S1⟩ := hrel
      have b0 := BS.h0; have b1 := BS.h1; have b2 := BS.h2
      have HB := Lib.hid BS
      clear BS
      by_cases hlt : s < r
      · have hlt' : (s : Int) < r := by omega
        obtain ⟨e1, e2, e3⟩ := half_i s r (by omega)
        obtain ⟨c, hc⟩ : ∃ c, c = (s + r) / 2 := ⟨_, rfl⟩
        rw [← hc] at e2 e3
        have c1 : s ≤ c := by omega
        have c2 : c < r := by omega
        obtain ⟨p, hp⟩ : ∃ p, p = n - 1 - c := ⟨_, rfl⟩
        have p1 : (n : Int) - 1 - c = p := by omega
        have p2 : p < dk.size := by omega
        have p3 : IntKind.i64.wrap (p : Int) = p := by rw [IntKind.wrap_i64]; omega
        obtain ⟨x, hx⟩ : ∃ x, dk[p]! = x := ⟨_, rfl⟩
        obtain ⟨y, hy⟩ : ∃ y, dk[c]! = y := ⟨_, rfl⟩
        have k1 : (c : Int) < dk.size := by omega
        have k2 : (p : Int) < dk.size := by omega
        have la := fun n os => (cellsG R S1.out HS.out p (by omega) x hx n os).1
        have lb := fun n os => (cellsG R S1.out HS.out p (by omega) x hx n os).2.1
        have lc := fun n os => (cellsG R S1.out HS.out p (by omega) x hx n os).2.2
        have ld := fun n os => (cellsG R S1.out HS.out c (by omega) y hy n os).1
        have le := fun n os => (cellsG R S1.out HS.out c (by omega) y hy n os).2.1
        have lf := fun n os => (cellsG R S1.out HS.out c (by omega) y hy n os).2.2
        have hcl := fun W => eclosure x y W
        have HX := Lib.hid hx; have HY := Lib.hid hy; have HCC := Lib.hid hc; have HPP := Lib.hid hp
        clear hx hy hc hp
        by_cases hv : x.st < y.st
        · have hd : cmpE x y < 0 := (cmpE_lt x y).2 hv
          have HV := Lib.hid hv
          generalize cmpE x y = cv at hcl hd
          have hd2 : (!decide (cv < 0)) = false := by rw [decide_eq_true hd]; rfl
          clear hv hd
          go_wp2_with fail
          go_quiet_grown (first | (go_at_call 152; refine Calls.grown_of (hcl _)))
          have S2 := Lib.hid (S1.out.grown nq osq)
          clear la lb lc ld le lf hcl S1
          generalize grow (wr.drewN nq) osq = w2 at S2 ⊢
          go_wp2
          go_roundw
          case rel => exact ⟨s, c, rfl, rfl, HB.out.down c1 c2 (by rw [← HPP.out, HX.out, HY.out]; exact HV.out), S2⟩
          case measure => simp [intOf]; omega
        · have hd : ¬ cmpE x y < 0 := fun c => hv ((cmpE_lt x y).1 c)
          have HV := Lib.hid hv
          generalize cmpE x y = cv at hcl hd
          have hd2 : (!decide (cv < 0)) = true := by rw [decide_eq_false hd]; rfl
          clear hv hd
          go_wp2_with fail
          go_quiet_grown (first | (go_at_call 152; refine Calls.grown_of (hcl _)))
          have S2 := Lib.hid (S1.out.grown nq osq)
          clear la lb lc ld le lf hcl S1
          generalize grow (wr.drewN nq) osq = w2 at S2 ⊢
          go_wp2
          go_roundw
          case rel => exact ⟨c + 1, r, by go_num, rfl, HB.out.up c1 c2 (by rw [← HPP.out, HX.out, HY.out]; have := HV.out; omega), S2⟩
          case measure => simp [intOf]; omega
      · have hsr : s = r := by omega
        have hlt' : ¬ (s : Int) < r := by omega
        have hB := HB.out
        rw [← hsr] at hB
        have bd := HP.out.bd hB.h0 hB.h2
        obtain ⟨d1', d2, d3, d4, d5, d6, d7, d8, d9, d10⟩ := bd
        obtain ⟨e, he⟩ : ∃ e, e = n - s := ⟨_, rfl⟩
        have hen : (n : Int) - s = e := by omega
        have f3 : m ≤ e := by omega
        have f4 : e ≤ b := by omega
        have f6 : mid ≤ e := by omega
        have HE := Lib.hid he; have HB2 := Lib.hid hB
        clear hB hsr hlt d3 d4 d6 d7 he
        go_upto_region 39 with (fail)
        go_cut [185] from 178 to 185 (fun v185 wx => v185 = .bool (decide (s < m) && decide (m < e)) ∧ wx = wr)
        case first =>
          by_cases t1 : s < m
          · have t1' : (s : Int) < m := by omega
            by_cases t2 : m < e
            · have t2' : (m : Int) < e := by omega
              have T := Lib.hid (And.intro t1 t2)
              clear t1 t2
              go_wp2
              all_goals go_meet
              all_goals exact ⟨by rw [decide_eq_true T.out.1, decide_eq_true T.out.2]; rfl, rfl⟩
            · have t2' : ¬ (m : Int) < e := by omega
              have T := Lib.hid (And.intro t1 t2)
              clear t1 t2
              go_wp2
              all_goals go_meet
              all_goals exact ⟨by rw [decide_eq_false T.out.2]; simp, rfl⟩
          · have t1' : ¬ (s : Int) < m := by omega
            have T := Lib.hid t1
            clear t1
            go_wp2
            all_goals go_meet
            all_goals exact ⟨by rw [decide_eq_false T.out]; rfl, rfl⟩
        case rest =>
        obtain ⟨rfl, rfl⟩ := hcut
        obtain ⟨tb, htb⟩ : ∃ tb, tb = (decide (s < m) && decide (m < e)) := ⟨_, rfl⟩
        rw [← htb]
        have HTB := Lib.hid htb
        clear htb
        go_upto_if 185 with (fail)
        go_cut [] from 186 to 191 (fun wx => ∃ d', Rot dk d' s m e ∧ SWK encE 3 w0 blk off d' wx)
        case first =>
          cases tb
          · go_wp2
            all_goals go_meet
            all_goals exact ⟨dk, Rot.none dk HTB.out.symm d2 f3, S1.out⟩
          · have h := HTB.out.symm
            simp only [Bool.and_eq_true, decide_eq_true_eq] at h
            have hrt := erot (cap := cap) R S1.out HS.out hsz s m e h.1 h.2 (by omega) (.func (.func 152) #[] #[])
            have HRT := Lib.hid hrt
            clear hrt h
            go_wp2_with (go_at_call 260; refine HRT.out.mono ?_; rintro e' w1 ⟨rfl, d', hr, hS⟩)
            all_goals go_meet
            all_goals exact ⟨d', hr, hS⟩
        case rest =>
        clear S1
        obtain ⟨d1, hrot, S2⟩ := hcut
        have hpr := part_rot HP.out hb HB2.out H1.out H2.out HL.out (HE.out ▸ hrot)
        rw [← HE.out] at hpr
        have O := Lib.hid hpr
        have HPM := Lib.hid (permIn_mono _ _ _ _ _ _ d1' f4 hb hrot.perm)
        have z1 : d1.size = dk.size := hrot.perm.1
        have SS2 := Lib.hid S2
        have HZ1 := Lib.hid z1
        clear hrot S2 hpr z1 HTB
        go_upto_region 41 with (fail)
        go_cut [199] from 192 to 199 (fun v199 wx => v199 = .bool (decide (a < s) && decide (s < mid)) ∧ wx = wc)
        case first =>
          by_cases t1 : a < s
          · have t1' : (a : Int) < s := by omega
            by_cases t2 : s < mid
            · have t2' : (s : Int) < mid := by omega
              have T := Lib.hid (And.intro t1 t2)
              clear t1 t2
              go_wp2
              all_goals go_meet
              all_goals exact ⟨by rw [decide_eq_true T.out.1, decide_eq_true T.out.2]; rfl, rfl⟩
            · have t2' : ¬ (s : Int) < mid := by omega
              have T := Lib.hid (And.intro t1 t2)
              clear t1 t2
              go_wp2
              all_goals go_meet
              all_goals exact ⟨by rw [decide_eq_false T.out.2]; simp, rfl⟩
          · have t1' : ¬ (a : Int) < s := by omega
            have T := Lib.hid t1
            clear t1
            go_wp2
            all_goals go_meet
            all_goals exact ⟨by rw [decide_eq_false T.out]; rfl, rfl⟩
        case rest =>
        obtain ⟨rfl, rfl⟩ := hcut
        obtain ⟨tc, htc⟩ : ∃ tc, tc = (decide (a < s) && decide (s < mid)) := ⟨_, rfl⟩
        rw [← htc]
        have HTC := Lib.hid htc
        clear htc
        go_upto_if 199 with (fail)
        go_cut [] from 200 to 205 (fun wx => ∃ d', PermIn a mid d1 d' ∧ Ord En.st En.rk d' a mid ∧ SWK encE 3 w0 blk off d' wx)
        case first =>
          cases tc
          · go_wp2
            all_goals go_meet
            all_goals exact ⟨d1, permIn_refl _ _ _, ord_triv_l O.out.1 O.out.2.1 (by have h := HTC.out.symm; simp only [Bool.and_eq_false_iff, decide_eq_false_iff_not] at h; omega) d1' d5, SS2.out⟩
          · have h := HTC.out.symm
            simp only [Bool.and_eq_true, decide_eq_true_eq] at h
            have hrt := HI.out wc d1 a s mid SS2.out (HZ1.out.trans HS.out) h.1 h.2 (by rw [HZ1.out]; omega) (by omega) O.out.1 O.out.2.1 O.out.2.2.2.2.1
            rw [HZ1.out] at hrt
            have HRT := Lib.hid hrt
            clear hrt h
            go_wp2_with (go_at_call 248; refine HRT.out.mono ?_; rintro e' w1 ⟨rfl, d', hr, ho, hS⟩)
            all_goals go_meet
            all_goals exact ⟨d', hr, ho, hS⟩
        case rest =>
        clear SS2 HTC
        obtain ⟨d2', hp2, ho2, S3⟩ := hcut
        have P2 := Lib.hid (And.intro hp2 ho2)
        have SS3 := Lib.hid S3
        have HZ2 := Lib.hid (hp2.1.trans HZ1.out)
        have O3 := Lib.hid (And.intro (ord_out hp2 (.inr (Nat.le_refl _)) O.out.2.2.1) (And.intro (ord_out hp2 (.inr f6) O.out.2.2.2.1) (lohi_out hp2 (.inr (Nat.le_refl _)) O.out.2.2.2.2.2.1)))
        clear hp2 ho2 S3
        go_upto_region 43 with (fail)
        go_cut [213] from 206 to 213 (fun v213 wx => v213 = .bool (decide (mid < e) && decide (e < b)) ∧ wx = wc)
        case first =>
          by_cases t1 : mid < e
          · have t1' : (mid : Int) < e := by omega
            by_cases t2 : e < b
            · have t2' : (e : Int) < b := by omega
              have T := Lib.hid (And.intro t1 t2)
              clear t1 t2
              go_wp2
              all_goals go_meet
              all_goals exact ⟨by rw [decide_eq_true T.out.1, decide_eq_true T.out.2]; rfl, rfl⟩
            · have t2' : ¬ (e : Int) < b := by omega
              have T := Lib.hid (And.intro t1 t2)
              clear t1 t2
              go_wp2
              all_goals go_meet
              all_goals exact ⟨by rw [decide_eq_false T.out.2]; simp, rfl⟩
          · have t1' : ¬ (mid : Int) < e := by omega
            have T := Lib.hid t1
            clear t1
            go_wp2
            all_goals go_meet
            all_goals exact ⟨by rw [decide_eq_false T.out]; rfl, rfl⟩
        case rest =>
        obtain ⟨rfl, rfl⟩ := hcut
        obtain ⟨td, htd⟩ : ∃ td, td = (decide (mid < e) && decide (e < b)) := ⟨_, rfl⟩
        rw [← htd]
        have HTD := Lib.hid htd
        clear htd
        cases td
        · go_wp2
          go_end0
          obtain ⟨j1, j2⟩ := part_join (Nat.le_of_lt q6) (Nat.le_of_lt q5) hb HPM.out O.out.2.2.2.2.2.2 P2.out.1 P2.out.2 (permIn_refl _ _ _) (ord_triv_l O3.out.1 O3.out.2.1 (by have h := HTD.out.symm; simp only [Bool.and_eq_false_iff, decide_eq_false_iff_not] at h; omega) f6 f4)
          exact ⟨rfl, d2', j1, j2, SS3.out⟩
        · have h := HTD.out.symm
          simp only [Bool.and_eq_true, decide_eq_true_eq] at h
          have hrt := HI.out wc d2' mid e b SS3.out (HZ2.out.trans HS.out) h.1 h.2 (by rw [HZ2.out]; exact hb) (by omega) O3.out.1 O3.out.2.1 O3.out.2.2
          rw [HZ2.out] at hrt
          have HRT := Lib.hid hrt
          clear hrt h
          go_wp2_with (go_at_call 248; refine HRT.out.mono ?_; rintro e' w1 ⟨rfl, d', hr, ho, hS⟩)
          go_end0
          obtain ⟨j1, j2⟩ := part_join (Nat.le_of_lt q6) (Nat.le_of_lt q5) hb HPM.out O.out.2.2.2.2.2.2 P2.out.1 P2.out.2 hr ho
          exact ⟨rfl, d', j1, j2, hS⟩
end
end Go.Proofs.YtdbgfidnccpmdaaGreat

/-
  slices.SortStableFunc at a history's entries, up to 180 of them.
-/
namespace Go.Proofs.YtdbgfidnccpmdaaGreat
open Go.RowKit Go.Shelf Go.Lib Go.Sort
set_option linter.unusedVariables false

section
variable {w0 : World} {blk off cap : Nat} {d0 : Array En} (R : RowK encE 3 w0 blk off d0) (hsz : d0.size < 4611686018427387904)
include R hsz
theorem emrg (n : Nat) : MrgAll w0 blk off cap d0 n := by
  induction n with
  | zero => intro W dk a m b _ _ h1 h2 _ h3; omega
  | succ n ih =>
    intro W dk a m b h hs h1 h2 h3 h4 o1 o2 hl
    by_cases c1 : m = a + 1
    · exact emrg_left R hsz h hs a m b c1 h2 h3 o2 hl
    · by_cases c2 : b = m + 1
      · exact emrg_right R hsz h hs a m b (by omega) c2 h3 o1 hl
      · exact emrg_two R hsz h hs a m b (by omega) (by omega) h3 o1 o2 hl (fun W dk a' m' b' g gs g1 g2 g3 g4 => ih W dk a' m' b' g gs g1 g2 g3 (by omega))
/-- What a row of the sort's is. -/
structure SRow (w0 : World) (blk off : Nat) (d0 dk : Array En) (W : World) : Prop where
  swk : SWK encE 3 w0 blk off dk W
  perm : PermIn 0 d0.size d0 dk
omit R hsz in
theorem SRow.on {dk dk' : Array En} {W' : World} {W : World} {a b : Nat} (h : SRow w0 blk off d0 dk W) (hb : b ≤ dk.size) (hp : PermIn a b dk dk') (hs : SWK encE 3 w0 blk off dk' W') : SRow w0 blk off d0 dk' W' := by
  have z : dk.size = d0.size := h.perm.1
  exact ⟨hs, permIn_trans _ _ _ _ _ h.perm (permIn_mono _ _ _ _ _ _ (Nat.zero_le _) (by omega) (by omega) hp)⟩
set_option maxHeartbeats 8000000 in
set_option maxRecDepth 1000000 in
theorem estab (hn : d0.size ≤ 180) (hr : RkA En.rk d0 0 d0.size) :
    Calls Tryz.prog 213 #[.slice (some ⟨blk, off, none⟩) d0.size cap, .int .i64 d0.size, .func (.func 152) #[] #[]] w0 fun e w' => e = .returned (.tuple #[]) ∧ ∃ d', PermIn 0 d0.size d0 d' ∧ Ord En.st En.rk d' 0 d0.size ∧ SWK encE 3 w0 blk off d' w' := by
  have S0 : Hid (SRow w0 blk off d0 d0 w0 ∧ Bk En.st En.rk (R1 0) d0 d0.size) := ⟨⟨SWK.start R.hH, permIn_refl _ _ _⟩, bk_start hr⟩
  have HM := Lib.hid (fun n => emrg (cap := cap) R hsz n)
  obtain ⟨N, hN⟩ : ∃ N, N = d0.size := ⟨_, rfl⟩
  have HN := Lib.hid hN
  rw [← hN] at hn S0 ⊢
  clear hr hN
  go_enter Tryz.func213, Tryz.ntmps213
  go_wp2
  go_loopw [7, 8] (fun v u wr => ∃ (k : Nat) (dk : Array En), v = .int .i64 ((20 * k : Nat) : Int) ∧ u = .int .i64 ((20 * k + 20 : Nat) : Int) ∧ 20 * k ≤ N ∧ Hid (SRow w0 blk off d0 dk wr ∧ Bk En.st En.rk (R1 (20 * k)) dk N)) (fun v _ _ => 1000 - (intOf v).toNat)
  case atStart => exact ⟨0, d0, rfl, rfl, by omega, S0⟩
  case round =>
    clear S0
    obtain ⟨k, dk, rfl, rfl, hk, S1⟩ := hrel
    have hz : dk.size = N := S1.out.1.perm.1.trans HN.out.symm
    obtain ⟨a, ha⟩ : ∃ a, a = 20 * k := ⟨_, rfl⟩
    rw [← ha] at hk S1 ⊢
    have HA := Lib.hid ha; have HZ := Lib.hid hz
    by_cases hlt : a + 20 ≤ N
    · have hlt' : ((a + 20 : Nat) : Int) ≤ N := by omega
      have hc := eins (cap := cap) R S1.out.1.swk (hz.trans HN.out) hsz a (a + 20) (by omega) (by omega)
      have hst := ins_stable (st := En.st) (rk := En.rk) (d := dk) (a := a) (b := a + 20) (by omega) (by omega) (bk_rka ha hlt S1.out.2)
      rw [hz] at hc
      have HC := Lib.hid hc; have HST := Lib.hid hst
      have hb := bk_ins (k := k) ha (.inl rfl) hlt (by omega) S1.out.2 hst.1 hst.2
      have HB := Lib.hid hb
      clear hc hst hb ha hz
      go_wp2_with (go_at_call 247; refine HC.out.mono ?_; rintro e w1 ⟨rfl, hS⟩)
      have HS := Lib.hid (S1.out.1.on (by rw [HZ.out]; exact hlt) HST.out.1 hS)
      clear hS
      go_roundw
      case rel => exact ⟨k + 1, _, by rw [HA.out]; congr 2, by rw [HA.out]; congr 2, by have := HA.out; omega, ⟨HS.out, by rw [show 20 * (k + 1) = a + 20 by have := HA.out; omega]; exact HB.out⟩⟩
      case measure => simp [intOf]; omega
    · have hlt' : ¬ ((a + 20 : Nat) : Int) ≤ N := by omega
      have hc := eins (cap := cap) R S1.out.1.swk (hz.trans HN.out) hsz a N (by omega) (by omega)
      have hst := ins_stable (st := En.st) (rk := En.rk) (d := dk) (a := a) (b := N) (by omega) (by omega) (bk_rka ha (Nat.le_refl _) S1.out.2)
      rw [hz] at hc
      have HC := Lib.hid hc; have HST := Lib.hid hst
      have hb := bk_two (by omega) (bk_ins (k := k) ha (.inr ⟨rfl, by omega, hk⟩) (Nat.le_refl _) (by omega) S1.out.2 hst.1 hst.2)
      have HB := Lib.hid hb
      clear hc hst hb ha hz
      go_wp2_with (go_at_call 247; refine HC.out.mono ?_; rintro e w1 ⟨rfl, hS⟩)
      have S2 : Hid (SRow w0 blk off d0 _ w1 ∧ Bk En.st En.rk (R2 20 0) _ N) := ⟨S1.out.1.on (by rw [HZ.out]; exact Nat.le_refl _) HST.out.1 hS, HB.out⟩
      clear hS HB HST HC S1 HZ HA hlt hlt' hk
      generalize insertionSort (bst En.st) dk a N = d1 at S2
      go_wp2_with fail
      go_loopw [6, 7, 8, 9] (fun v _ _ _ wr => ∃ (s : Nat) (dk : Array En), v = .int .i64 s ∧ (s = 20 ∨ s = 40 ∨ s = 80 ∨ s = 160 ∨ s = 320) ∧ Hid (SRow w0 blk off d0 dk wr ∧ Bk En.st En.rk (R2 s 0) dk N)) (fun v _ _ _ _ => 1000 - (intOf v).toNat)
      case atStart => exact ⟨20, d1, rfl, .inl rfl, S2⟩
      case round =>
        clear S2
        obtain ⟨s, dk, rfl, hs, S1⟩ := hrel
        by_cases hsn : s < N
        · have hsn' : (s : Int) < N := by omega
          have hIs : Is s := by unfold Is; omega
          have HIS := Lib.hid hIs
          have hs2 : 20 ≤ s ∧ s ≤ 160 := by unfold Is at hIs; omega
          obtain ⟨hs3, hs4⟩ := hs2
          clear hs hIs
          go_wp2_with fail
          go_loopw [7, 8] (fun v u wr => ∃ (a k : Nat) (dk : Array En), v = .int .i64 a ∧ u = .int .i64 ((a : Int) + 2 * s) ∧ a ≤ N ∧ Hid (a = 2 * s * k ∧ SRow w0 blk off d0 dk wr ∧ Bk En.st En.rk (R2 s a) dk N)) (fun v _ _ => 1000 - (intOf v).toNat)
          case atStart => exact ⟨0, 0, dk, rfl, by go_num, by omega, ⟨by simp, S1.out.1, S1.out.2⟩⟩
          case round =>
            clear S1
            obtain ⟨a, k, dk, rfl, rfl, hk, S1⟩ := hrel
            have hz : dk.size = N := S1.out.2.1.perm.1.trans HN.out.symm
            have HZ := Lib.hid hz
            have ea : a = 2 * s * k := S1.out.1
            have HEA := Lib.hid ea
            by_cases hlt : a + 2 * s ≤ N
            · have hlt' : (a : Int) + 2 * s ≤ N := by omega
              obtain ⟨o1, o2, o3⟩ := bk_pair (m := a + s) (b := a + 2 * s) HIS.out ea rfl (Nat.le_refl _) hlt (by omega) S1.out.2.2
              have hc := HM.out (2 * s + 1) wr dk a (a + s) (a + 2 * s) S1.out.2.1.swk (hz.trans HN.out) (by omega) (by omega) (by omega) (by omega) o1 o2 o3
              rw [hz, show ((a + s : Nat) : Int) = (a : Int) + s by omega, show ((a + 2 * s : Nat) : Int) = (a : Int) + 2 * s by omega] at hc
              have HC := Lib.hid hc
              clear hc o1 o2 o3 ea hz
              go_wp2_with (go_at_call 248; refine HC.out.mono ?_; rintro e w1 ⟨rfl, d', hp, ho, hS⟩)
              have hs1 := S1.out.2.1.on (by rw [HZ.out]; exact hlt) hp hS
              have hb := bk_merge (b := a + 2 * s) HIS.out HEA.out (m := a + s) (.inl rfl) hlt (by rw [HZ.out]; exact Nat.le_refl _) S1.out.2.2 hp ho
              have Q : Hid (a + 2 * s = 2 * s * (k + 1) ∧ SRow w0 blk off d0 d' w1 ∧ Bk En.st En.rk (R2 s (a + 2 * s)) d' N) := ⟨by rw [Nat.mul_succ, ← HEA.out], hs1, hb⟩
              clear hp ho hS hs1 hb
              go_roundw
              case rel => exact ⟨a + 2 * s, k + 1, d', by congr 1, by congr 1, by omega, Q⟩
              case measure => simp [intOf]; omega
            · have hlt' : ¬ (a : Int) + 2 * s ≤ N := by omega
              by_cases hm : a + s < N
              · have hm' : (a : Int) + s < N := by omega
                obtain ⟨o1, o2, o3⟩ := bk_pair (m := a + s) (b := N) HIS.out ea rfl (by omega) (Nat.le_refl _) hm S1.out.2.2
                have hc := HM.out (2 * s + 1) wr dk a (a + s) N S1.out.2.1.swk (hz.trans HN.out) (by omega) hm (by omega) (by omega) o1 o2 o3
                rw [hz, show ((a + s : Nat) : Int) = (a : Int) + s by omega] at hc
                have HC := Lib.hid hc
                have HLT := Lib.hid hlt
                clear hc o1 o2 o3 ea hz hlt
                go_wp2_with (go_at_call 248; refine HC.out.mono ?_; rintro e w1 ⟨rfl, d', hp, ho, hS⟩)
                have hs1 := S1.out.2.1.on (by rw [HZ.out]; exact Nat.le_refl _) hp hS
                have hb := bk_next HIS.out (by have := HLT.out; omega) (bk_merge (b := N) HIS.out HEA.out (m := a + s) (.inr ⟨rfl, by have := HLT.out; omega, hk⟩) (Nat.le_refl _) (by rw [HZ.out]; exact Nat.le_refl _) S1.out.2.2 hp ho)
                have Q : Hid (SRow w0 blk off d0 d' w1 ∧ Bk En.st En.rk (R2 (2 * s) 0) d' N) := ⟨hs1, hb⟩
                clear hp ho hS hs1 hb
                go_roundw
                case rel => exact ⟨2 * s, d', by congr 1; omega, by have := HIS.out; unfold Is at this; omega, Q⟩
                case measure => simp [intOf]; omega
              · have hm' : ¬ (a : Int) + s < N := by omega
                have hb := bk_next HIS.out (by omega) (bk_rest HIS.out ea (by omega) S1.out.2.2)
                have Q : Hid (SRow w0 blk off d0 dk wr ∧ Bk En.st En.rk (R2 (2 * s) 0) dk N) := ⟨S1.out.2.1, hb⟩
                clear hb ea hz S1 hlt hm
                go_wp2
                go_roundw
                case rel => exact ⟨2 * s, dk, by congr 1; omega, by have := HIS.out; unfold Is at this; omega, Q⟩
                case measure => simp [intOf]; omega
        · have hsn' : ¬ (s : Int) < N := by omega
          have P := Lib.hid (And.intro S1.out.1.swk (And.intro S1.out.1.perm (bk_end (by omega) S1.out.2)))
          clear S1
          go_wp2
          go_end0
          exact ⟨rfl, dk, by rw [HN.out]; exact P.out.2.1, P.out.2.2, P.out.1⟩
/-- The whole sort. -/
theorem esort (hn : d0.size ≤ 180) (hr : RkA En.rk d0 0 d0.size) :
    Calls Tryz.prog 151 #[.slice (some ⟨blk, off, none⟩) d0.size cap, .func (.func 152) #[] #[]] w0 fun e w' => e = .returned (.tuple #[]) ∧ ∃ d', PermIn 0 d0.size d0 d' ∧ Ord En.st En.rk d' 0 d0.size ∧ SWK encE 3 w0 blk off d' w' := by
  have hc := Lib.hid (estab (cap := cap) R hsz hn hr)
  clear hr
  go_enter Tryz.func151, Tryz.ntmps151
  go_wp2_with (go_at_call 213; refine hc.out.mono ?_; rintro e w1 ⟨rfl, hS⟩)
  go_end0
  exact ⟨rfl, hS⟩
end
end Go.Proofs.YtdbgfidnccpmdaaGreat

/-
  A history's calls and drops, to be read.
-/
namespace Go.Proofs.YtdbgfidnccpmdaaGreat
open Go.RowKit Go.Maps
set_option linter.unusedVariables false

structure HC where
  th : Int
  vb : Int
  ky : ByteArray
  vl : ByteArray
  fl : Int
  ex : Int
  ui : Int
  bn : Int
  fr : Int
  «to» : Int
  ak : Int
  an : Int
  ik : ByteArray
  iv : ByteArray
  ifl : Int
  iid : Int
  idi : Int
  ige : Int
  ep : Int
  pt : Int
def HC.cells (x : HC) : List Value := [.int .i64 x.th, .int .u8 x.vb, .string x.ky, .string x.vl, .int .u32 x.fl, .int .i64 x.ex, .int .u64 x.ui, .int .u64 x.bn, .int .i64 x.fr, .int .i64 x.to, .int .u8 x.ak, .int .u64 x.an, .string x.ik, .string x.iv, .int .u32 x.ifl, .int .u64 x.iid, .int .i64 x.idi, .int .i64 x.ige, .int .u64 x.ep, .int .i64 x.pt]
structure HC.wf (x : HC) : Prop where
  th : (Lit.int .i64 x.th).wf = true
  vb : (Lit.int .u8 x.vb).wf = true
  ky : x.ky.size ≤ maxLen
  vl : x.vl.size ≤ maxLen
  fl : (Lit.int .u32 x.fl).wf = true
  ex : (Lit.int .i64 x.ex).wf = true
  ui : (Lit.int .u64 x.ui).wf = true
  bn : (Lit.int .u64 x.bn).wf = true
  fr : (Lit.int .i64 x.fr).wf = true
  «to» : (Lit.int .i64 x.to).wf = true
  ak : (Lit.int .u8 x.ak).wf = true
  an : (Lit.int .u64 x.an).wf = true
  ik : x.ik.size ≤ maxLen
  iv : x.iv.size ≤ maxLen
  ifl : (Lit.int .u32 x.ifl).wf = true
  iid : (Lit.int .u64 x.iid).wf = true
  idi : (Lit.int .i64 x.idi).wf = true
  ige : (Lit.int .i64 x.ige).wf = true
  ep : (Lit.int .u64 x.ep).wf = true
  pt : (Lit.int .i64 x.pt).wf = true
def hcLeaves : List Leaf := [.int .i64, .int .u8, .str, .str, .int .u32, .int .i64, .int .u64, .int .u64, .int .i64, .int .i64, .int .u8, .int .u64, .str, .str, .int .u32, .int .u64, .int .i64, .int .i64, .int .u64, .int .i64]
theorem hc_of {w : World} {cs : List Value} (h : Leaf.allHold w hcLeaves cs) : ∃ x : HC, cs = x.cells ∧ x.wf := by
  obtain ⟨c0, r, rfl, g0, h⟩ := allHold_cons h
  obtain ⟨c1, r, rfl, g1, h⟩ := allHold_cons h
  obtain ⟨c2, r, rfl, g2, h⟩ := allHold_cons h
  obtain ⟨c3, r, rfl, g3, h⟩ := allHold_cons h
  obtain ⟨c4, r, rfl, g4, h⟩ := allHold_cons h
  obtain ⟨c5, r, rfl, g5, h⟩ := allHold_cons h
  obtain ⟨c6, r, rfl, g6, h⟩ := allHold_cons h
  obtain ⟨c7, r, rfl, g7, h⟩ := allHold_cons h
  obtain ⟨c8, r, rfl, g8, h⟩ := allHold_cons h
  obtain ⟨c9, r, rfl, g9, h⟩ := allHold_cons h
  obtain ⟨c10, r, rfl, g10, h⟩ := allHold_cons h
  obtain ⟨c11, r, rfl, g11, h⟩ := allHold_cons h
  obtain ⟨c12, r, rfl, g12, h⟩ := allHold_cons h
  obtain ⟨c13, r, rfl, g13, h⟩ := allHold_cons h
  obtain ⟨c14, r, rfl, g14, h⟩ := allHold_cons h
  obtain ⟨c15, r, rfl, g15, h⟩ := allHold_cons h
  obtain ⟨c16, r, rfl, g16, h⟩ := allHold_cons h
  obtain ⟨c17, r, rfl, g17, h⟩ := allHold_cons h
  obtain ⟨c18, r, rfl, g18, h⟩ := allHold_cons h
  obtain ⟨c19, r, rfl, g19, h⟩ := allHold_cons h
  obtain rfl := allHold_nil h
  obtain ⟨n0, rfl, w0⟩ := holds_int g0
  obtain ⟨n1, rfl, w1⟩ := holds_int g1
  obtain ⟨n2, rfl, w2⟩ := holds_str g2
  obtain ⟨n3, rfl, w3⟩ := holds_str g3
  obtain ⟨n4, rfl, w4⟩ := holds_int g4
  obtain ⟨n5, rfl, w5⟩ := holds_int g5
  obtain ⟨n6, rfl, w6⟩ := holds_int g6
  obtain ⟨n7, rfl, w7⟩ := holds_int g7
  obtain ⟨n8, rfl, w8⟩ := holds_int g8
  obtain ⟨n9, rfl, w9⟩ := holds_int g9
  obtain ⟨n10, rfl, w10⟩ := holds_int g10
  obtain ⟨n11, rfl, w11⟩ := holds_int g11
  obtain ⟨n12, rfl, w12⟩ := holds_str g12
  obtain ⟨n13, rfl, w13⟩ := holds_str g13
  obtain ⟨n14, rfl, w14⟩ := holds_int g14
  obtain ⟨n15, rfl, w15⟩ := holds_int g15
  obtain ⟨n16, rfl, w16⟩ := holds_int g16
  obtain ⟨n17, rfl, w17⟩ := holds_int g17
  obtain ⟨n18, rfl, w18⟩ := holds_int g18
  obtain ⟨n19, rfl, w19⟩ := holds_int g19
  exact ⟨⟨n0, n1, n2, n3, n4, n5, n6, n7, n8, n9, n10, n11, n12, n13, n14, n15, n16, n17, n18, n19⟩, rfl, w0, w1, w2, w3, w4, w5, w6, w7, w8, w9, w10, w11, w12, w13, w14, w15, w16, w17, w18, w19⟩
structure HCs (w : World) (a : Option Addr) (cap : Nat) (l : List HC) : Prop where
  le : l.length ≤ cap
  most : cap ≤ maxLen
  nil : a = none → cap = 0
  wf : ∀ x ∈ l, x.wf
  cell : l = [] ∨ ∃ b off, a = some ⟨b, off, none⟩ ∧ ∀ i, (hi : i < l.length) → ∀ j, j < 20 → w.cell? ⟨b, off + (i * 20 + j), none⟩ = (l[i]).cells[j]?
theorem hcs_of {w : World} {v : Value} (h : Leaf.holds w (.sl hcLeaves) v) : ∃ (l : List HC) (a : Option Addr) (cap : Nat), v = .slice a l.length cap ∧ HCs w a cap l := by
  obtain ⟨l, a, cap, rfl, h1, h2, h3, h4, h5⟩ := recs_of h
  obtain ⟨m, hm, hp⟩ := list_of (fun i (x : HC) => l[i]? = some x.cells ∧ x.wf) l.length (fun i hi => by
    obtain ⟨x, hx, hw⟩ := hc_of (h4 _ (List.getElem_mem hi))
    exact ⟨x, by rw [List.getElem?_eq_getElem hi, hx], hw⟩)
  refine ⟨m, a, cap, by rw [hm], by omega, h2, h3, fun x hx => ?_, ?_⟩
  · obtain ⟨i, hi, rfl⟩ := List.mem_iff_getElem.1 hx
    exact (hp i hi).2
  · rcases h5 with rfl | ⟨b, off, rfl, h5⟩
    · left; simpa using hm
    · refine .inr ⟨b, off, rfl, fun i hi j hj => ?_⟩
      have h6 := h5 i (by omega) j hj
      have h7 := (hp i hi).1
      rw [List.getElem?_eq_getElem (by omega)] at h7
      simp only [Option.some.injEq] at h7
      rw [h7] at h6
      exact h6
theorem HCs.at {w : World} {a : Option Addr} {cap : Nat} {l : List HC} (h : HCs w a cap l) (i : Nat) (hi : i < l.length) :
    ∃ b off x, a = some ⟨b, off, none⟩ ∧ l[i]? = some x ∧ x.wf ∧ w.cell? ⟨b, off + i * 20, none⟩ = some (.int .i64 x.th) ∧ w.cell? ⟨b, off + i * 20 + 1, none⟩ = some (.int .u8 x.vb) ∧ w.cell? ⟨b, off + i * 20 + 2, none⟩ = some (.string x.ky) ∧ w.cell? ⟨b, off + i * 20 + 3, none⟩ = some (.string x.vl) ∧ w.cell? ⟨b, off + i * 20 + 4, none⟩ = some (.int .u32 x.fl) ∧ w.cell? ⟨b, off + i * 20 + 5, none⟩ = some (.int .i64 x.ex) ∧ w.cell? ⟨b, off + i * 20 + 6, none⟩ = some (.int .u64 x.ui) ∧ w.cell? ⟨b, off + i * 20 + 7, none⟩ = some (.int .u64 x.bn) ∧ w.cell? ⟨b, off + i * 20 + 8, none⟩ = some (.int .i64 x.fr) ∧ w.cell? ⟨b, off + i * 20 + 9, none⟩ = some (.int .i64 x.to) ∧ w.cell? ⟨b, off + i * 20 + 10, none⟩ = some (.int .u8 x.ak) ∧ w.cell? ⟨b, off + i * 20 + 11, none⟩ = some (.int .u64 x.an) ∧ w.cell? ⟨b, off + i * 20 + 12, none⟩ = some (.string x.ik) ∧ w.cell? ⟨b, off + i * 20 + 13, none⟩ = some (.string x.iv) ∧ w.cell? ⟨b, off + i * 20 + 14, none⟩ = some (.int .u32 x.ifl) ∧ w.cell? ⟨b, off + i * 20 + 15, none⟩ = some (.int .u64 x.iid) ∧ w.cell? ⟨b, off + i * 20 + 16, none⟩ = some (.int .i64 x.idi) ∧ w.cell? ⟨b, off + i * 20 + 17, none⟩ = some (.int .i64 x.ige) ∧ w.cell? ⟨b, off + i * 20 + 18, none⟩ = some (.int .u64 x.ep) ∧ w.cell? ⟨b, off + i * 20 + 19, none⟩ = some (.int .i64 x.pt) := by
  rcases h.cell with rfl | ⟨b, off, rfl, h5⟩
  · simp at hi
  · have h6 := h5 i hi
    refine ⟨b, off, l[i], rfl, List.getElem?_eq_getElem hi, h.wf _ (List.getElem_mem hi), h6 0 (by omega), ?_, ?_, ?_, ?_, ?_, ?_, ?_, ?_, ?_, ?_, ?_, ?_, ?_, ?_, ?_, ?_, ?_, ?_, ?_⟩
    · rw [Nat.add_assoc]; exact h6 1 (by omega)
    · rw [Nat.add_assoc]; exact h6 2 (by omega)
    · rw [Nat.add_assoc]; exact h6 3 (by omega)
    · rw [Nat.add_assoc]; exact h6 4 (by omega)
    · rw [Nat.add_assoc]; exact h6 5 (by omega)
    · rw [Nat.add_assoc]; exact h6 6 (by omega)
    · rw [Nat.add_assoc]; exact h6 7 (by omega)
    · rw [Nat.add_assoc]; exact h6 8 (by omega)
    · rw [Nat.add_assoc]; exact h6 9 (by omega)
    · rw [Nat.add_assoc]; exact h6 10 (by omega)
    · rw [Nat.add_assoc]; exact h6 11 (by omega)
    · rw [Nat.add_assoc]; exact h6 12 (by omega)
    · rw [Nat.add_assoc]; exact h6 13 (by omega)
    · rw [Nat.add_assoc]; exact h6 14 (by omega)
    · rw [Nat.add_assoc]; exact h6 15 (by omega)
    · rw [Nat.add_assoc]; exact h6 16 (by omega)
    · rw [Nat.add_assoc]; exact h6 17 (by omega)
    · rw [Nat.add_assoc]; exact h6 18 (by omega)
    · rw [Nat.add_assoc]; exact h6 19 (by omega)
theorem HCs.below {w w' : World} {a : Option Addr} {cap : Nat} {l : List HC} (h : HCs w a cap l) (hb : Below w.heap.size w w') : HCs w' a cap l := by
  refine ⟨h.le, h.most, h.nil, h.wf, h.cell.imp id fun ⟨b, off, e, h5⟩ => ⟨b, off, e, fun i hi j hj => ?_⟩⟩
  have h6 := h5 i hi j hj
  have hj2 : j < (l[i]).cells.length := by simp [HC.cells]; omega
  rw [List.getElem?_eq_getElem hj2] at h6 ⊢
  exact (hb.cell (World.block_lt_of_cell? _ _ h6)).trans h6
theorem HC.one (x : HC) : (x.cells.toArray).all (·.oneCell') = true := by simp [HC.cells, Value.oneCell']
theorem HCs.whole {w : World} {a : Option Addr} {cap : Nat} {l : List HC} (h : HCs w a cap l) (i : Nat) (hi : i < l.length) :
    ∃ b off x cl, a = some ⟨b, off, none⟩ ∧ l[i]? = some x ∧ cl = x.cells ∧ cl.length = 20 ∧ cl.toArray.all (·.oneCell') = true ∧ w.rangeAt b (off + i * 20) cl := by
  rcases h.cell with rfl | ⟨b, off, rfl, h5⟩
  · simp at hi
  · refine ⟨b, off, l[i], _, rfl, List.getElem?_eq_getElem hi, rfl, rfl, HC.one _, fun j v hv => ?_⟩
    have hj : j < 20 := (List.getElem?_eq_some_iff.1 hv).1
    have h6 := h5 i hi j hj
    rw [Nat.add_assoc, h6]; exact hv
structure HD where
  st : Int
  ik : ByteArray
  iv : ByteArray
  ifl : Int
  iid : Int
  idi : Int
  ige : Int
def HD.cells (x : HD) : List Value := [.int .i64 x.st, .string x.ik, .string x.iv, .int .u32 x.ifl, .int .u64 x.iid, .int .i64 x.idi, .int .i64 x.ige]
structure HD.wf (x : HD) : Prop where
  st : (Lit.int .i64 x.st).wf = true
  ik : x.ik.size ≤ maxLen
  iv : x.iv.size ≤ maxLen
  ifl : (Lit.int .u32 x.ifl).wf = true
  iid : (Lit.int .u64 x.iid).wf = true
  idi : (Lit.int .i64 x.idi).wf = true
  ige : (Lit.int .i64 x.ige).wf = true
def hdLeaves : List Leaf := [.int .i64, .str, .str, .int .u32, .int .u64, .int .i64, .int .i64]
theorem hd_of {w : World} {cs : List Value} (h : Leaf.allHold w hdLeaves cs) : ∃ x : HD, cs = x.cells ∧ x.wf := by
  obtain ⟨c0, r, rfl, g0, h⟩ := allHold_cons h
  obtain ⟨c1, r, rfl, g1, h⟩ := allHold_cons h
  obtain ⟨c2, r, rfl, g2, h⟩ := allHold_cons h
  obtain ⟨c3, r, rfl, g3, h⟩ := allHold_cons h
  obtain ⟨c4, r, rfl, g4, h⟩ := allHold_cons h
  obtain ⟨c5, r, rfl, g5, h⟩ := allHold_cons h
  obtain ⟨c6, r, rfl, g6, h⟩ := allHold_cons h
  obtain rfl := allHold_nil h
  obtain ⟨n0, rfl, w0⟩ := holds_int g0
  obtain ⟨n1, rfl, w1⟩ := holds_str g1
  obtain ⟨n2, rfl, w2⟩ := holds_str g2
  obtain ⟨n3, rfl, w3⟩ := holds_int g3
  obtain ⟨n4, rfl, w4⟩ := holds_int g4
  obtain ⟨n5, rfl, w5⟩ := holds_int g5
  obtain ⟨n6, rfl, w6⟩ := holds_int g6
  exact ⟨⟨n0, n1, n2, n3, n4, n5, n6⟩, rfl, w0, w1, w2, w3, w4, w5, w6⟩
structure HDs (w : World) (a : Option Addr) (cap : Nat) (l : List HD) : Prop where
  le : l.length ≤ cap
  most : cap ≤ maxLen
  nil : a = none → cap = 0
  wf : ∀ x ∈ l, x.wf
  cell : l = [] ∨ ∃ b off, a = some ⟨b, off, none⟩ ∧ ∀ i, (hi : i < l.length) → ∀ j, j < 7 → w.cell? ⟨b, off + (i * 7 + j), none⟩ = (l[i]).cells[j]?
theorem hds_of {w : World} {v : Value} (h : Leaf.holds w (.sl hdLeaves) v) : ∃ (l : List HD) (a : Option Addr) (cap : Nat), v = .slice a l.length cap ∧ HDs w a cap l := by
  obtain ⟨l, a, cap, rfl, h1, h2, h3, h4, h5⟩ := recs_of h
  obtain ⟨m, hm, hp⟩ := list_of (fun i (x : HD) => l[i]? = some x.cells ∧ x.wf) l.length (fun i hi => by
    obtain ⟨x, hx, hw⟩ := hd_of (h4 _ (List.getElem_mem hi))
    exact ⟨x, by rw [List.getElem?_eq_getElem hi, hx], hw⟩)
  refine ⟨m, a, cap, by rw [hm], by omega, h2, h3, fun x hx => ?_, ?_⟩
  · obtain ⟨i, hi, rfl⟩ := List.mem_iff_getElem.1 hx
    exact (hp i hi).2
  · rcases h5 with rfl | ⟨b, off, rfl, h5⟩
    · left; simpa using hm
    · refine .inr ⟨b, off, rfl, fun i hi j hj => ?_⟩
      have h6 := h5 i (by omega) j hj
      have h7 := (hp i hi).1
      rw [List.getElem?_eq_getElem (by omega)] at h7
      simp only [Option.some.injEq] at h7
      rw [h7] at h6
      exact h6
theorem HDs.at {w : World} {a : Option Addr} {cap : Nat} {l : List HD} (h : HDs w a cap l) (i : Nat) (hi : i < l.length) :
    ∃ b off x, a = some ⟨b, off, none⟩ ∧ l[i]? = some x ∧ x.wf ∧ w.cell? ⟨b, off + i * 7, none⟩ = some (.int .i64 x.st) ∧ w.cell? ⟨b, off + i * 7 + 1, none⟩ = some (.string x.ik) ∧ w.cell? ⟨b, off + i * 7 + 2, none⟩ = some (.string x.iv) ∧ w.cell? ⟨b, off + i * 7 + 3, none⟩ = some (.int .u32 x.ifl) ∧ w.cell? ⟨b, off + i * 7 + 4, none⟩ = some (.int .u64 x.iid) ∧ w.cell? ⟨b, off + i * 7 + 5, none⟩ = some (.int .i64 x.idi) ∧ w.cell? ⟨b, off + i * 7 + 6, none⟩ = some (.int .i64 x.ige) := by
  rcases h.cell with rfl | ⟨b, off, rfl, h5⟩
  · simp at hi
  · have h6 := h5 i hi
    refine ⟨b, off, l[i], rfl, List.getElem?_eq_getElem hi, h.wf _ (List.getElem_mem hi), h6 0 (by omega), ?_, ?_, ?_, ?_, ?_, ?_⟩
    · rw [Nat.add_assoc]; exact h6 1 (by omega)
    · rw [Nat.add_assoc]; exact h6 2 (by omega)
    · rw [Nat.add_assoc]; exact h6 3 (by omega)
    · rw [Nat.add_assoc]; exact h6 4 (by omega)
    · rw [Nat.add_assoc]; exact h6 5 (by omega)
    · rw [Nat.add_assoc]; exact h6 6 (by omega)
theorem HDs.below {w w' : World} {a : Option Addr} {cap : Nat} {l : List HD} (h : HDs w a cap l) (hb : Below w.heap.size w w') : HDs w' a cap l := by
  refine ⟨h.le, h.most, h.nil, h.wf, h.cell.imp id fun ⟨b, off, e, h5⟩ => ⟨b, off, e, fun i hi j hj => ?_⟩⟩
  have h6 := h5 i hi j hj
  have hj2 : j < (l[i]).cells.length := by simp [HD.cells]; omega
  rw [List.getElem?_eq_getElem hj2] at h6 ⊢
  exact (hb.cell (World.block_lt_of_cell? _ _ h6)).trans h6
theorem HD.one (x : HD) : (x.cells.toArray).all (·.oneCell') = true := by simp [HD.cells, Value.oneCell']
theorem HDs.whole {w : World} {a : Option Addr} {cap : Nat} {l : List HD} (h : HDs w a cap l) (i : Nat) (hi : i < l.length) :
    ∃ b off x cl, a = some ⟨b, off, none⟩ ∧ l[i]? = some x ∧ cl = x.cells ∧ cl.length = 7 ∧ cl.toArray.all (·.oneCell') = true ∧ w.rangeAt b (off + i * 7) cl := by
  rcases h.cell with rfl | ⟨b, off, rfl, h5⟩
  · simp at hi
  · refine ⟨b, off, l[i], _, rfl, List.getElem?_eq_getElem hi, rfl, rfl, HD.one _, fun j v hv => ?_⟩
    have hj : j < 7 := (List.getElem?_eq_some_iff.1 hv).1
    have h6 := h5 i hi j hj
    rw [Nat.add_assoc, h6]; exact hv

/-- A history that may be read. -/
structure Hst where
  ca : Option Addr
  cc : Nat
  cs : List HC
  da : Option Addr
  dc : Nat
  ds : List HD
def Hst.cells (h : Hst) : Array Value := #[.slice h.ca h.cs.length h.cc, .slice h.da h.ds.length h.dc]
structure HstRd (w : World) (h : Hst) : Prop where
  cs : HCs w h.ca h.cc h.cs
  ds : HDs w h.da h.dc h.ds
theorem HstRd.below {w w' : World} {h : Hst} (r : HstRd w h) (hb : Below w.heap.size w w') : HstRd w' h := ⟨r.cs.below hb, r.ds.below hb⟩
def hstLeaves : List Leaf := [.sl hcLeaves, .sl hdLeaves]
theorem leaves_hist : leaves Tryz.prog 8 171 = some hstLeaves := by kernel_rfl
set_option maxRecDepth 100000 in
theorem hst_open {H : Type} {w : World} {enc : TypeId × Value → H} {base : Nat} {v : Value} {d : DataW H} {p : List MemPlace} (k : DataW.Trod enc Tryz.prog w 0 (fun _ => true) true 171 v d p) (o : Value.okWide Tryz.prog w .any base 171 v) : ∃ h : Hst, v = .agg h.cells ∧ HstRd w h := by
  obtain ⟨cs, rfl, -⟩ := Go.WideShapes.okWide_struct Tryz.underlying171 o
  have h := opened leaves_hist k
  unfold hstLeaves at h
  obtain ⟨c0, r, h0, g0, h⟩ := allHold_cons h
  obtain ⟨c1, r, rfl, g1, h⟩ := allHold_cons h
  obtain rfl := allHold_nil h
  obtain ⟨l, a, cap, rfl, h1⟩ := hcs_of g0
  obtain ⟨m, b, dap, rfl, h2⟩ := hds_of g1
  refine ⟨⟨a, cap, l, b, dap, m⟩, ?_, h1, h2⟩
  have : cs.toList = [.slice a l.length cap, .slice b m.length dap] := h0
  have e : cs = (⟨a, cap, l, b, dap, m⟩ : Hst).cells := Array.toList_inj.1 this
  rw [e]
end Go.Proofs.YtdbgfidnccpmdaaGreat

/-
  Rows of a history's entries, and their sort.
-/
namespace Go.Proofs.YtdbgfidnccpmdaaGreat
open Go.RowKit Go.Maps Go.Sort
set_option linter.unusedVariables false

theorem hballoc (w : World) (o : Obj) : Below w.heap.size w (w.alloc o) := (Below.refl _ _).alloc (Nat.le_refl _) _
theorem hblk {w : World} {q : Nat} {cs : Array Value} {T : TypeId} (h : w.heap[q]? = some (.cells cs T (0, 0))) (o : Nat) : w.cell? ⟨q, o, none⟩ = cs[o]? := by simp [World.cell?, h]
theorem hbfz {w : World} {q : Nat} {cs : Array Value} {T : TypeId} (h : w.heap[q]? = some (.cells cs T (0, 0))) (o : Nat) : w.frozen? ⟨q, o, none⟩ = false := by simp [World.frozen?, h]
def flatE (l : List En) : List Value := l.flatMap encE
theorem flatE_len (l : List En) : (flatE l).length = l.length * 3 := by
  induction l with
  | nil => rfl
  | cons x r ih => simp only [flatE, List.flatMap_cons, List.length_append, List.length_cons] at *; rw [ih]; simp [encE]; omega
theorem flatE_snoc (l : List En) (x : En) : flatE (l ++ [x]) = flatE l ++ [.int .i64 x.st, .int .i64 x.ca, .int .i64 x.dr] := by simp [flatE, encE]
theorem flatE_at (l : List En) (k : Nat) (hk : k < l.length) (j : Nat) (hj : j < 3) : (flatE l)[k * 3 + j]? = (encE l[k])[j]? := by
  induction l generalizing k with
  | nil => simp at hk
  | cons x r ih =>
    unfold flatE
    rw [List.flatMap_cons]
    match k with
    | 0 =>
      rw [List.getElem?_append_left (by simp [encE]; omega)]
      simp
    | k + 1 =>
      rw [List.getElem?_append_right (by simp [encE]; omega)]
      have := ih k (by simp at hk; omega)
      simp only [List.getElem_cons_succ]
      rw [← this]
      unfold flatE
      congr 1
      simp [encE]; omega
/-- A row of entries that the call made, without room behind it. -/
def ERow (w : World) (base : Nat) (v : Value) (l : List En) : Prop :=
  (v = .slice none 0 0 ∧ l = []) ∨ ∃ g cur, v = .slice (some ⟨g, 0, none⟩) l.length l.length ∧ base ≤ g ∧ w.heap[g]? = some (.cells cur 176 (0, 0)) ∧ l.length ≤ maxLen ∧ cur.toList.take (l.length * 3) = flatE l
theorem ERow.below {w w' : World} {base : Nat} {v : Value} {l : List En} (h : ERow w base v l) (hb : Below w.heap.size w w') : ERow w' base v l := by
  rcases h with h | ⟨g, cur, h1, h2, h3, h4⟩
  · exact .inl h
  · exact .inr ⟨g, cur, h1, h2, (hb.block _ (Array.getElem?_eq_some_iff.1 h3).1).trans h3, h4⟩
theorem ERow.mono {w : World} {b base : Nat} {v : Value} {l : List En} (h : ERow w b v l) (hb : base ≤ b) : ERow w base v l := by
  rcases h with h | ⟨g, cur, h1, h2, h3⟩
  · exact .inl h
  · exact .inr ⟨g, cur, h1, Nat.le_trans hb h2, h3⟩
theorem ERow.sl {w : World} {base : Nat} {v : Value} {l : List En} (h : ERow w base v l) : ∃ a, v = .slice a l.length l.length ∧ l.length ≤ maxLen := by
  rcases h with ⟨rfl, rfl⟩ | ⟨g, cur, rfl, -, -, h4, -⟩
  · exact ⟨none, rfl, Nat.zero_le _⟩
  · exact ⟨_, rfl, h4⟩
theorem ERow.at {w : World} {base : Nat} {a : Option Addr} {n c : Nat} {l : List En} (h : ERow w base (.slice a n c) l) (k : Nat) (hk : k < l.length) :
    ∃ g e, a = some ⟨g, 0, none⟩ ∧ l[k]? = some e ∧ w.cell? ⟨g, k * 3, none⟩ = some (.int .i64 e.st) ∧ w.cell? ⟨g, k * 3 + 1, none⟩ = some (.int .i64 e.ca) ∧ w.cell? ⟨g, k * 3 + 2, none⟩ = some (.int .i64 e.dr) := by
  rcases h with ⟨-, rfl⟩ | ⟨g, cur, hv, -, hg, -, ht⟩
  · simp at hk
  · simp only [Value.slice.injEq] at hv
    have hj : ∀ j, j < 3 → w.cell? ⟨g, k * 3 + j, none⟩ = (encE l[k])[j]? := fun j hj => by
      rw [← flatE_at l k hk j hj, ← ht, List.getElem?_take, if_pos (by omega)]
      simp [World.cell?, hg]
    exact ⟨g, l[k], hv.1, List.getElem?_eq_getElem hk, hj 0 (by omega), hj 1 (by omega), hj 2 (by omega)⟩
theorem eclip_any {w : World} {base : Nat} {v : Value} {l : List En} (h : w.ownsRow base 176 3 v l.length (flatE l)) : Calls Tryz.prog 154 #[v] w fun e w' => ∃ v', e = .returned v' ∧ ERow w base v' l ∧ w' = w := by
  obtain ⟨h1, ⟨rfl, h0⟩ | ⟨g, cap, cur, rfl, hb, hg, hn, hm, hs, ht⟩⟩ := h
  · have : l = [] := List.length_eq_zero_iff.1 h0
    subst this
    clear h1 h0
    go_enter Tryz.func154, Tryz.ntmps154
    go_wp2
    go_ret
    exact ⟨_, rfl, .inl ⟨rfl, rfl⟩, rfl⟩
  · have hm2 := Nat.le_trans hn hm
    have H : Hid (ERow w base (.slice (some ⟨g, 0, none⟩) l.length l.length) l) := .inr ⟨g, cur, rfl, hb, hg, hm2, ht⟩
    unfold maxLen at hm hm2
    clear h1 hb hg hs ht
    go_enter Tryz.func154, Tryz.ntmps154
    go_wp2
    go_ret
    exact ⟨_, rfl, H.out, rfl⟩
theorem holds_flatE {w : World} {g e : Nat} {cur : Array Value} (hg : w.heap[g]? = some (.cells cur e (0, 0))) (l : List En) (ht : cur.toList.take (l.length * 3) = flatE l) : HoldsK encE 3 w g 0 l.toArray := by
  intro j hj
  rw [size_flatK] at hj
  have hj2 : j < l.length * 3 := by simpa using hj
  have hi : j / 3 < l.length := by omega
  have hc : cur[j]? = (flatE l)[j]? := by rw [← ht, List.getElem?_take_of_lt hj2]; simp
  have hw : w.cell? ⟨g, 0 + j, none⟩ = cur[j]? := by simp [World.cell?, hg]
  refine ⟨?_, by simp [World.frozen?, hg]⟩
  rw [get_flatK _ _ _ _ hj, hw, hc]
  have hf := flatE_at l (j / 3) hi (j % 3) (by omega)
  rw [show j / 3 * 3 + j % 3 = j by omega] at hf
  rw [hf]
  have hlt : j % 3 < (encE l[j / 3]).length := by show j % 3 < 3; omega
  rw [List.getElem?_eq_getElem hlt]
  rw [show l.toArray[j / 3]! = l[j / 3] by simp [hi], id, getElem!_pos (encE l[j / 3]) _ hlt]
theorem esort_keeps (w : World) (g n : Nat) (d : Array En) (os : Array Obj) : Keeps (· = g) w (sortWorldK encE 3 w g 0 n d os) := by
  refine ⟨rfl, rfl, rfl, size_sortWorldK_c _ _ _ _ _ _ _ _, fun k hk hne => ?_⟩
  have hne : ¬ g = k := fun c => hne c.symm
  unfold sortWorldK grow putRowK putRow mapBlock Sort.ahead
  simp only
  rw [Array.getElem?_append_left (by simpa using hk)]
  simp [Array.getElem?_modify, hne]
theorem esort_row {w w' : World} {base g cap : Nat} {cur : Array Value} (hgb : base ≤ g) (hg : w.heap[g]? = some (.cells cur 176 (0, 0))) {l : List En} (hn : l.length ≤ cap) (hm : cap ≤ maxLen) (hs : cur.size = cap * 3) (ht : cur.toList.take (l.length * 3) = flatE l) {d' : Array En} (hd : d'.size = l.length) (hw : SWK encE 3 w g 0 d' w') :
    w'.ownsRow base 176 3 (.slice (some ⟨g, 0, none⟩) d'.toList.length cap) d'.toList.length (flatE d'.toList) ∧ Keeps (· = g) w w' := by
  obtain ⟨n, os, rfl⟩ := hw
  have hlt : g < w.heap.size := (Array.getElem?_eq_some_iff.1 hg).1
  have hH := holdsK_sortWorldK_c encE 3 w g 0 l.toArray d' n os (holds_flatE hg l ht) hlt (by simpa using hd)
  have hh : (sortWorldK encE 3 w g 0 n d' os).heap[g]? = some (.cells (putCells id 0 (flatK encE 3 d') cur) 176 (0, 0)) := by
    unfold sortWorldK grow putRowK putRow mapBlock Sort.ahead
    simp only
    rw [Array.getElem?_append_left (by simpa using hlt)]
    simp [Array.getElem?_modify, hg, onCells]
  have hcs : (putCells id 0 (flatK encE 3 d') cur).size = cap * 3 := by rw [← hs]; simp [putCells]
  generalize putCells id 0 (flatK encE 3 d') cur = c2 at hh hcs
  refine ⟨⟨?_, .inr ⟨g, cap, c2, rfl, hgb, hh, by simpa [hd] using hn, hm, hcs, ?_⟩⟩, esort_keeps w g n d' os⟩
  · rw [flatE_len]
  · apply List.ext_getElem?
    intro j
    by_cases hj : j < d'.toList.length * 3
    · rw [List.getElem?_take, if_pos hj]
      have hi : j / 3 < d'.toList.length := by omega
      have hf := flatE_at d'.toList (j / 3) hi (j % 3) (by omega)
      rw [show j / 3 * 3 + j % 3 = j by omega] at hf
      rw [hf]
      have hi2 : j / 3 < d'.size := by simpa using hi
      have c0 := (hH.cell (i := j / 3) (c := j % 3) hi2 (by omega)).1
      rw [show 0 + j / 3 * 3 + j % 3 = j by omega, getElem!_pos d' _ hi2] at c0
      have e : (sortWorldK encE 3 w g 0 n d' os).cell? ⟨g, j, none⟩ = c2[j]? := by unfold World.cell?; simp only; rw [hh]; rfl
      rw [e] at c0
      have hlt2 : j % 3 < (encE d'.toList[j / 3]).length := by show j % 3 < 3; omega
      rw [Array.getElem?_toList, c0, List.getElem?_eq_getElem hlt2]
      have e3 : d'[j / 3] = d'.toList[j / 3] := by simp
      rw [e3, getElem!_pos (encE d'.toList[j / 3]) _ hlt2]
    · rw [List.getElem?_eq_none (by rw [List.length_take]; omega), List.getElem?_eq_none (by rw [flatE_len]; omega)]
end Go.Proofs.YtdbgfidnccpmdaaGreat

/-
  hists.Order: whatever history.
-/
namespace Go.Proofs.YtdbgfidnccpmdaaGreat
open Go.RowKit Go.Maps Go.Sort
set_option linter.unusedVariables false

theorem info_entry : (Tryz.prog.info? 176).map (fun i => (i.zero, i.size, i.bytes)) = some (some (.agg #[.int .i64 0, .int .i64 0, .int .i64 0]), 3, 24) := by kernel_rfl
theorem info_parts3 {P : Program} {t : TypeId} {z : Value} {s b : Nat} (h : (P.info? t).map (fun i => (i.zero, i.size, i.bytes)) = some (some z, s, b)) : ∃ i, P.info? t = some i ∧ i.zero = some z ∧ i.size = s ∧ i.bytes = b := by
  cases hi : P.info? t with
  | none => rw [hi] at h; cases h
  | some i => rw [hi] at h; simp only [Option.map_some, Option.some.injEq, Prod.mk.injEq] at h; exact ⟨i, rfl, h.1, h.2.1, h.2.2⟩
/-- The sort of no entries. -/
theorem esort_nil (f : Value) (w : World) : Calls Tryz.prog 151 #[.slice none 0 0, f] w fun e w' => e = .returned (.tuple #[]) ∧ w' = w := by
  have h1 : ∀ W, Calls Tryz.prog 247 #[.slice none 0 0, .int .i64 0, .int .i64 0, f] W fun e w' => e = .returned (.tuple #[]) ∧ w' = W := fun W => by
    go_enter Tryz.func247, Tryz.ntmps247
    go_wp2
    go_loopw [8] (fun v wr => v = .int .i64 1 ∧ wr = W) (fun _ _ => 0)
    case atStart => exact ⟨rfl, rfl⟩
    case round =>
      obtain ⟨rfl, rfl⟩ := hrel
      go_wp2
      go_end0
      exact ⟨rfl, rfl⟩
  have h2 : ∀ W, Calls Tryz.prog 213 #[.slice none 0 0, .int .i64 0, f] W fun e w' => e = .returned (.tuple #[]) ∧ w' = W := fun W => by
    go_enter Tryz.func213, Tryz.ntmps213
    go_wp2
    go_loopw [7, 8] (fun v u wr => v = .int .i64 0 ∧ u = .int .i64 20 ∧ wr = W) (fun _ _ _ => 0)
    case atStart => exact ⟨rfl, rfl, rfl⟩
    case round =>
      obtain ⟨rfl, rfl, rfl⟩ := hrel
      obtain ⟨wo, rfl⟩ : ∃ wo : World, wo = wr := ⟨_, rfl⟩
      go_wp2_with (go_at_call 247; refine (h1 _).mono ?_; intro e w1 hh; obtain ⟨hh1, hh2⟩ := hh; subst hh1; obtain rfl := hh2.symm)
      go_loopw [6, 7, 8, 9] (fun v _ _ _ wr => v = .int .i64 20 ∧ wr = wo) (fun _ _ _ _ _ => 0)
      case atStart => exact ⟨rfl, rfl⟩
      case round =>
        obtain ⟨rfl, rfl⟩ := hrel
        go_wp2
        go_end0
        exact ⟨rfl, rfl⟩
  go_enter Tryz.func151, Tryz.ntmps151
  go_wp2_with (go_at_call 213; refine (h2 _).mono ?_; intro e w1 hh; obtain ⟨hh1, hh2⟩ := hh; subst hh1; obtain rfl := hh2.symm)
  go_end0
  exact ⟨rfl, rfl⟩
/-- The sort, of a row that the call made. -/
theorem esort_own {w : World} {base : Nat} {v : Value} {ps ds : List Int} (hl : ps.length + ds.length ≤ 180) (h : w.ownsRow base 176 3 v (E0 ps ds).length (flatE (E0 ps ds))) :
    Calls Tryz.prog 151 #[v, .func (.func 152) #[] #[]] w fun e w' => e = .returned (.tuple #[]) ∧ ∃ O, IsOrd ps ds O ∧ w'.ownsRow base 176 3 v O.length (flatE O) ∧ Below base w w' := by
  obtain ⟨h1, ⟨rfl, h0⟩ | ⟨g, cap, cur, rfl, hb, hg, hn, hm, hs, ht⟩⟩ := h
  · refine (esort_nil _ w).mono fun e w' ⟨h2, h3⟩ => ⟨h2, [], ?_⟩
    have hz : E0 ps ds = [] := List.length_eq_zero_iff.1 h0
    subst h3
    exact ⟨⟨by rw [hz], List.Pairwise.nil⟩, World.ownsRow_nil _ _ _ _, Below.refl _ _⟩
  · have hlen := E0_len ps ds
    obtain ⟨d0, hd0⟩ : ∃ d0, d0 = (E0 ps ds).toArray := ⟨_, rfl⟩
    have hsz : d0.size = (E0 ps ds).length := by rw [hd0]; simp
    have hH := holds_flatE hg (E0 ps ds) ht
    rw [← hd0] at hH
    have hlt : g < w.heap.size := (Array.getElem?_eq_some_iff.1 hg).1
    have R := row_e hH hlt
    have hrk : RkA En.rk d0 0 d0.size := fun i j _ h2 h3 => by
      have := List.pairwise_iff_getElem.1 (E0_rk ps ds (by omega)) i j (by omega) (by omega) h2
      rw [hd0, getElem!_pos _ i (by simp; omega), getElem!_pos _ j (by simp; omega)]
      simpa using this
    have hc := esort (cap := cap) R (by omega) (by omega) hrk
    rw [hsz] at hc
    refine hc.mono fun e w' ⟨h2, d', hp, ho, hw⟩ => ⟨h2, d'.toList, ?_⟩
    have hds : d'.size = (E0 ps ds).length := hp.1.trans hsz
    obtain ⟨r1, r2⟩ := esort_row hb hg hn hm hs ht hds hw
    refine ⟨⟨?_, ?_⟩, ?_, ?_⟩
    · have h3 := hp.2.2
      have e1 : d'.extract 0 (E0 ps ds).length = d' := by rw [← hds]; simp
      have e2 : d0.extract 0 (E0 ps ds).length = d0 := by rw [← hsz]; simp
      rw [e1, e2, hd0] at h3
      simpa using h3
    · rw [List.pairwise_iff_getElem]
      intro i j hi hj hij
      have hi' : i < d'.size := by simpa using hi
      have hj' : j < d'.size := by simpa using hj
      have := ho i j (Nat.zero_le _) hij (by omega)
      rw [getElem!_pos d' i hi', getElem!_pos d' j hj'] at this
      simpa using this
    · have : d'.toList.length = (E0 ps ds).length := by simpa using hds
      rw [this] at r1
      rw [this]; exact r1
    · exact keeps_below r2 (Below.refl _ _) (Nat.le_of_lt (Nat.lt_of_le_of_lt hb hlt)) (fun j hj => by rw [hj]; exact hb)
end Go.Proofs.YtdbgfidnccpmdaaGreat

/-
  hists.Order: the walk.
-/
namespace Go.Proofs.YtdbgfidnccpmdaaGreat
open Go.RowKit Go.Maps Go.Sort
set_option linter.unusedVariables false

theorem E0_ds (ps ds : List Int) (d : Int) : E0 ps (ds ++ [d]) = E0 ps ds ++ [⟨d, -1, (ds.length : Int)⟩] := by unfold E0; rw [dropE_snoc, List.append_assoc]
theorem E0_nil (ps : List Int) : E0 ps [] = callE ps := by simp [E0, dropE]
def HC.pts (l : List HC) : List Int := l.map HC.pt
def HD.sts (l : List HD) : List Int := l.map HD.st
theorem pts_take (l : List HC) (k : Nat) (x : HC) (h : l[k]? = some x) : HC.pts (l.take (k + 1)) = HC.pts (l.take k) ++ [x.pt] := by unfold HC.pts; rw [List.take_add_one, h]; simp
theorem sts_take (l : List HD) (k : Nat) (x : HD) (h : l[k]? = some x) : HD.sts (l.take (k + 1)) = HD.sts (l.take k) ++ [x.st] := by unfold HD.sts; rw [List.take_add_one, h]; simp
theorem pts_len (l : List HC) (k : Nat) (h : k ≤ l.length) : (HC.pts (l.take k)).length = k := by simp [HC.pts, h]
theorem sts_len (l : List HD) (k : Nat) (h : k ≤ l.length) : (HD.sts (l.take k)).length = k := by simp [HD.sts, h]
/-- A whole struct into the block that was made last. -/
theorem wpList_store_new {P : Program} {ops : Array Oper} {rest : List Oper} {op : Oper} {a : Act} {Q : Exit → Act → World → Prop} (hgd : op.guard = none) (ty : TypeId) (x y : Operand) (ho : op.op = .store ty x y)
    (w : World) (c c' : Array Value) (hx : a.eval x = .pointer (some ⟨w.heap.size, 0, none⟩)) (hy : a.eval y = .agg c') (hi : (P.info? ty).map (·.size) = some c'.size) (hs : c.size = c'.size) (h1 : c'.all (·.oneCell') = true)
    (h : wpList P ops Q rest (a.put op.dst undef) (w.alloc (.cells c' ty))) : wpList P ops Q (op :: rest) a (w.alloc (.cells c ty)) :=
  wpList_plain hgd fun _ hK => by
    unfold Oper.wp execOp
    simp only [ho, hx, hy, run_storeAt_new w ty c c' hi hs h1, Sem.run_bind, Sem.run_pure, Result.andThen_ok]
    exact hK _ _ h
set_option maxRecDepth 100000 in
set_option maxHeartbeats 4000000 in
theorem order_any (h : Hst) (w : World) (hr : HstRd w h) (h1 : h.cs.length ≤ 120) (h2 : h.ds.length ≤ 60) :
    Calls Tryz.prog 70 #[.agg #[.slice h.ca h.cs.length h.cc, .slice h.da h.ds.length h.dc]] w fun e w' => ∃ v O, e = .returned v ∧ ERow w' w.heap.size v O ∧ IsOrd (HC.pts h.cs) (HD.sts h.ds) O ∧ Below w.heap.size w w' := by
  obtain ⟨i0, hi0, hz0, hz1, hz2⟩ := info_parts3 info_entry
  have HI := Lib.hid hi0; have HZ0 := Lib.hid hz0; have HZ1 := Lib.hid hz1; have HZ2 := Lib.hid hz2
  have hB := hballoc w (.cells h.cells 171)
  have z := heap_alloc_new w (.cells h.cells 171)
  have HR := Lib.hid (hr.below hB); have HB := Lib.hid hB; have HZ := Lib.hid z
  clear hi0 hz0 hz1 hz2 hr hB z
  go_enter Tryz.func70, Tryz.ntmps70
  go_upto_region 1 with (fail)
  change Code.wp _ _ _ _ (w.alloc (.cells h.cells 171))
  obtain ⟨w1, hw1⟩ : ∃ w1, w1 = w.alloc (.cells h.cells 171) := ⟨_, rfl⟩
  rw [← hw1] at HR HB HZ ⊢
  clear hw1
  have z := HZ.out
  have c0 : w1.cell? ⟨w.heap.size, 0, none⟩ = some (.slice h.ca h.cs.length h.cc) := hblk z 0
  have hc0 : (h.cs.length : Int) ≤ 120 := by omega
  clear z
  have H1 := Lib.hid h1; have H2 := Lib.hid h2
  clear h1 h2
  go_wp2_with fail
  clear c0
  go_loopw [3, 4, 5, 11] (fun v3 _ _ i wr => ∃ k : Nat, k ≤ h.cs.length ∧ i = .int .i64 k ∧ Hid (wr.ownsRow w1.heap.size 176 3 v3 k (flatE (callE (HC.pts (h.cs.take k))))) ∧ Below w1.heap.size w1 wr) (fun _ _ _ i _ => h.cs.length - (intOf i).toNat)
  case atStart => exact ⟨0, by omega, rfl, World.ownsRow_nil _ _ _ _, Below.refl _ _⟩
  case round =>
    obtain ⟨k, hk, rfl, HO, hbw⟩ := hrel
    have HBW := Lib.hid hbw
    by_cases hlt : k < h.cs.length
    · have hlt' : (k : Int) < h.cs.length := by omega
      obtain ⟨b, off, x, cl, hca, hx, hcl, hsz, h1c, hld⟩ := (HR.out.cs.below hbw).whole k hlt
      have h19 : cl.toArray[19]? = some (.int .i64 x.pt) := by rw [hcl]; rfl
      have hi20 : (Tryz.prog.info? 168).map (·.size) = some cl.length := by rw [hsz]; kernel_rfl
      have HX := Lib.hid hx; have HLT := Lib.hid hlt; have H19 := Lib.hid h19; have H1C := Lib.hid h1c; have HLD := Lib.hid hld; have HI20 := Lib.hid hi20; have HSZ := Lib.hid hsz
      have hlen := pts_len h.cs k hk
      have HLEN := Lib.hid hlen
      rw [hca]
      have HCA := Lib.hid hca
      clear hx hbw hlt hlen hk h19 h1c hld hcl hsz hi20
      go_upto_region 5 with (first
        | (refine wpList_load_mid rfl 168 (.tmp 14) rfl b (off + k * 20) rfl cl _ HLD.out Tryz.underlying168 rfl HI20.out ?_)
        | (refine wpList_store_new rfl 168 (.tmp 5) (.tmp 15) rfl wr _ cl.toArray rfl rfl HI20.out (by simp [HSZ.out]) H1C.out ?_))
      go_frame
      have hb5 := hballoc wr (.cells cl.toArray 168)
      have hz5 := heap_alloc_new wr (.cells cl.toArray 168)
      have HO5 := Lib.hid (HO.out.alloc (.cells cl.toArray 168))
      generalize wr.alloc (.cells cl.toArray 168) = w5 at *
      have c5 : w5.cell? ⟨wr.heap.size, 19, none⟩ = some (.int .i64 x.pt) := (hblk hz5 19).trans H19.out
      have HB5 := Lib.hid hb5
      clear hb5 hz5
      have hk1 : (k : Int) ≤ 120 := by omega
      go_wp2_with (at_builtin; refine wpList_append_own _ rfl _ _ 172 rfl w1.heap.size 176 i0 (.agg #[.int .i64 0, .int .i64 0, .int .i64 0]) 3 24 Tryz.underlying172 HI.out HZ0.out HZ1.out HZ2.out rfl (by decide) _ _ _ rfl (HO5.out.alloc _) ⟨_, 0, none⟩ 1 1 [.int .i64 x.pt, .int .i64 k, .int .i64 (-1)] rfl rfl (World.news_of_block (cs := #[.int .i64 x.pt, .int .i64 k, .int .i64 (-1)]) (t := 176) (fr := (0, 0)) (heap_alloc_new w5 _)) ?c2 ?c3 ?c4 ?c5 ?_)
      case c2 => simp [Value.oneCell']
      case c3 => unfold maxLen; omega
      case c4 => omega
      case c5 => have h1 := HBW.out.size; have h2 := HB5.out.size; first | omega | (simp; omega)
      intro v' w6 hown hgrow _
      have hs5 := HBW.out.size
      have hb6 : Below w1.heap.size w1 w6 := ((HBW.out.trans (HB5.out.mono hs5)).alloc (Nat.le_trans hs5 HB5.out.size) (.cells #[.int .i64 x.pt, .int .i64 k, .int .i64 (-1)] 176)).grown hgrow (by have := HB5.out.size; simp; omega) (fun j hj => (HO5.out.lt j hj).1)
      have HO6 : Hid (w6.ownsRow w1.heap.size 176 3 v' (k + 1) (flatE (callE (HC.pts (h.cs.take (k + 1)))))) := by
        show World.ownsRow _ _ _ _ _ _ _
        rw [pts_take h.cs k x HX.out, callE_snoc, flatE_snoc, HLEN.out]; exact hown
      have HB6 := Lib.hid hb6
      clear hown hgrow hb6 c5
      go_wp2_with fail
      go_roundw
      case rel => exact ⟨k + 1, HLT.out, by go_num, HO6.out, HB6.out⟩
      case measure => have := HLT.out; simp [intOf]; omega
    · obtain rfl : k = h.cs.length := by omega
      rw [List.take_length, ← E0_nil] at HO
      have c1 : wr.cell? ⟨w.heap.size, 1, none⟩ = some (.slice h.da h.ds.length h.dc) := hblk ((HBW.out.block _ (Array.getElem?_eq_some_iff.1 HZ.out).1).trans HZ.out) 1
      have hd0 : (h.ds.length : Int) ≤ 60 := by have := H2.out; omega
      have HO0 := HO
      clear hbw hk hlt HO
      go_wp2_with fail
      clear c1
      go_loopw [3, 6, 7, 27] (fun v3 _ _ i wr => ∃ k : Nat, k ≤ h.ds.length ∧ i = .int .i64 k ∧ Hid (wr.ownsRow w1.heap.size 176 3 v3 (h.cs.length + k) (flatE (E0 (HC.pts h.cs) (HD.sts (h.ds.take k))))) ∧ Below w1.heap.size w1 wr) (fun _ _ _ i _ => h.ds.length - (intOf i).toNat)
      case atStart => exact ⟨0, by omega, rfl, HO0, HBW.out⟩
      case round =>
        clear HBW HO0
        obtain ⟨k, hk, rfl, HO, hbw⟩ := hrel
        have HBW := Lib.hid hbw
        by_cases hlt : k < h.ds.length
        · have hlt' : (k : Int) < h.ds.length := by omega
          obtain ⟨b, off, x, cl, hca, hx, hcl, hsz, h1c, hld⟩ := (HR.out.ds.below hbw).whole k hlt
          have h19 : cl.toArray[0]? = some (.int .i64 x.st) := by rw [hcl]; rfl
          have hi20 : (Tryz.prog.info? 54).map (·.size) = some cl.length := by rw [hsz]; kernel_rfl
          have HX := Lib.hid hx; have HLT := Lib.hid hlt; have H19 := Lib.hid h19; have H1C := Lib.hid h1c; have HLD := Lib.hid hld; have HI20 := Lib.hid hi20; have HSZ := Lib.hid hsz
          have hlen := sts_len h.ds k hk
          have HLEN := Lib.hid hlen
          rw [hca]
          have HCA := Lib.hid hca
          clear hx hbw hlt hlen hk h19 h1c hld hcl hsz hi20
          go_upto_region 10 with (first
            | (refine wpList_load_mid rfl 54 (.tmp 30) rfl b (off + k * 7) rfl cl _ HLD.out Tryz.underlying54 rfl HI20.out ?_)
            | (refine wpList_store_new rfl 54 (.tmp 7) (.tmp 31) rfl wr _ cl.toArray rfl rfl HI20.out (by simp [HSZ.out]) H1C.out ?_))
          go_frame
          have hb5 := hballoc wr (.cells cl.toArray 54)
          have hz5 := heap_alloc_new wr (.cells cl.toArray 54)
          have HO5 := Lib.hid (HO.out.alloc (.cells cl.toArray 54))
          generalize wr.alloc (.cells cl.toArray 54) = w5 at *
          have c5 : w5.cell? ⟨wr.heap.size, 0, none⟩ = some (.int .i64 x.st) := (hblk hz5 0).trans H19.out
          have HB5 := Lib.hid hb5
          clear hb5 hz5
          have hk1 : (k : Int) ≤ 60 := by omega
          have hcl1 := H1.out
          go_wp2_with (at_builtin; refine wpList_append_own _ rfl _ _ 172 rfl w1.heap.size 176 i0 (.agg #[.int .i64 0, .int .i64 0, .int .i64 0]) 3 24 Tryz.underlying172 HI.out HZ0.out HZ1.out HZ2.out rfl (by decide) _ _ _ rfl (HO5.out.alloc _) ⟨_, 0, none⟩ 1 1 [.int .i64 x.st, .int .i64 (-1), .int .i64 k] rfl rfl (World.news_of_block (cs := #[.int .i64 x.st, .int .i64 (-1), .int .i64 k]) (t := 176) (fr := (0, 0)) (heap_alloc_new w5 _)) ?c2 ?c3 ?c4 ?c5 ?_)
          case c2 => simp [Value.oneCell']
          case c3 => unfold maxLen; omega
          case c4 => omega
          case c5 => have h1 := HBW.out.size; have h2 := HB5.out.size; first | omega | (simp; omega)
          intro v' w6 hown hgrow _
          have hs5 := HBW.out.size
          have hb6 : Below w1.heap.size w1 w6 := ((HBW.out.trans (HB5.out.mono hs5)).alloc (Nat.le_trans hs5 HB5.out.size) (.cells #[.int .i64 x.st, .int .i64 (-1), .int .i64 k] 176)).grown hgrow (by have := HB5.out.size; simp; omega) (fun j hj => (HO5.out.lt j hj).1)
          have HO6 : Hid (w6.ownsRow w1.heap.size 176 3 v' (h.cs.length + (k + 1)) (flatE (E0 (HC.pts h.cs) (HD.sts (h.ds.take (k + 1)))))) := by
            show World.ownsRow _ _ _ _ _ _ _
            rw [sts_take h.ds k x HX.out, E0_ds, flatE_snoc, HLEN.out]; exact hown
          have HB6 := Lib.hid hb6
          clear hown hgrow hb6 c5 hcl1
          go_wp2_with fail
          go_roundw
          case rel => exact ⟨k + 1, HLT.out, by go_num, HO6.out, HB6.out⟩
          case measure => have := HLT.out; simp [intOf]; omega
        · obtain rfl : k = h.ds.length := by omega
          rw [List.take_length] at HO
          have hle : (E0 (HC.pts h.cs) (HD.sts h.ds)).length = h.cs.length + h.ds.length := by rw [E0_len]; simp [HC.pts, HD.sts]
          rw [← hle] at HO
          have hso := Lib.hid (esort_own (ps := HC.pts h.cs) (ds := HD.sts h.ds) (by have h1 := H1.out; have h2 := H2.out; simp only [HC.pts, HD.sts, List.length_map]; omega) HO.out)
          clear hbw hk hlt hle
          go_wp2_with (first
            | (go_at_call 151; refine hso.out.mono ?_; intro e w7 hh; obtain ⟨hh1, O, q1, q2, q3⟩ := hh; subst hh1; have HQ1 := Lib.hid q1; have HCL := Lib.hid (eclip_any q2); have HB7 := Lib.hid (HBW.out.trans q3); clear q1 q2 q3)
            | (go_at_call 154; refine HCL.out.mono ?_; intro e w8 hh; obtain ⟨v', hh1, he, hh2⟩ := hh; subst hh1; obtain rfl := hh2.symm; have HE := Lib.hid he; clear he))
          go_ret
          exact ⟨_, O, rfl, HE.out.mono HB.out.size, HQ1.out, HB.out.trans (HB7.out.mono HB.out.size)⟩
end Go.Proofs.YtdbgfidnccpmdaaGreat

/-
  nestboxlaw34.Great: is a history too great?
-/
namespace Go.Proofs.YtdbgfidnccpmdaaGreat
open Go.RowKit Go.Maps Go.Sort
set_option linter.unusedVariables false

def GrtPost (h : Hst) (w : World) (e : Ending) (w' : World) : Prop := ∃ g, e = .returned (.bool g) ∧ Below w.heap.size w w' ∧ (g = false → h.cs.length ≤ 120 ∧ h.ds.length ≤ 60)
end Go.Proofs.YtdbgfidnccpmdaaGreat

/-
  A map from signed integers to integers that a call made: what it says at each key.
-/
namespace Go.Proofs.YtdbgfidnccpmdaaGreat
open Go.RowKit Go.Maps
set_option linter.unusedVariables false

def kJ (a : Int) : Lit := .int .i64 a
theorem kJ_key (a : Int) : WideAt.IsKeyLit (kJ a) := trivial
/-- Block m is a map of at most n entries; at key a it says f a (0 where it has none). -/
def MapJ (w : World) (K E : TypeId) (q : IntKind) (m n : Nat) (f : Int → Int) : Prop :=
  ∃ D : DataW Unit, w.ownsMap Tryz.prog K (plainElem Tryz.prog E) m n D ∧ ∀ a, D.atKey (kJ a) (.lit (.int q 0)) = .lit (.int q (f a))
section
variable {w w' : World} {K E t : TypeId} {q : IntKind} {m n : Nat} {f : Int → Int}
theorem MapJ.made (w : World) (K E : TypeId) (q : IntKind) : MapJ (w.alloc (.map #[] 0)) K E q w.heap.size 0 fun _ => 0 := ⟨.map [], World.ownsMap_made w _ _ _, fun a => rfl⟩
theorem MapJ.lt (h : MapJ w K E q m n f) : m < w.heap.size := by obtain ⟨D, h, _⟩ := h; exact h.lt
theorem MapJ.keep (h : MapJ w K E q m n f) (hk : w'.heap[m]? = w.heap[m]?) : MapJ w' K E q m n f := by
  obtain ⟨D, ⟨es, clock, hb, r⟩, hf⟩ := h
  exact ⟨D, ⟨es, clock, hk.trans hb, r⟩, hf⟩
theorem MapJ.below (h : MapJ w K E q m n f) (hb : Below w.heap.size w w') : MapJ w' K E q m n f := h.keep (hb.block _ h.lt)
theorem MapJ.look (h : MapJ w K E q m n f) (hK : Tryz.prog.underlying K = some (.int .i64)) (hE : Tryz.prog.underlying E = some (.int q)) (hz : (zeroValue E).run Tryz.prog w = .ok (.int q 0) w) (ht : Tryz.prog.underlying t = some (.map K E)) {a : Int} (ha : (Lit.int .i64 a).wf = true) :
    (Instr.lookup t (.map (some m)) (.int .i64 a) false).run Tryz.prog w = .ok (.int q (f a)) w ∧ (Lit.int q (f a)).wf = true := by
  obtain ⟨D, h, hf⟩ := h
  obtain ⟨c, hr, hat, hw⟩ := h.lookup_int (int_keyed hK) ht hE hz (keyOf_int_mk hK ha)
  have := hat.symm.trans (hf a)
  simp only [DataW.lit.injEq, Lit.int.injEq, true_and] at this
  subst this
  exact ⟨hr, hw⟩
theorem MapJ.put (h : MapJ w K E q m n f) (hK : Tryz.prog.underlying K = some (.int .i64)) (hE : Tryz.prog.underlying E = some (.int q)) (ht : Tryz.prog.underlying t = some (.map K E)) {a v : Int} (ha : (Lit.int .i64 a).wf = true) (hv : (Lit.int q v).wf = true) (hn : n < maxLen) :
    ∃ w', (Instr.mapUpdate t (.map (some m)) (.int .i64 a) (.int q v)).run Tryz.prog w = .ok () w' ∧ MapJ w' K E q m (n + 1) (upd f a v) ∧ w.grownBy w' (some m) := by
  obtain ⟨D, h, hf⟩ := h
  obtain ⟨w', hr, ho, hg⟩ := h.update (int_keyed hK) ht hn (keyOf_int_mk hK ha) (plainElem_int hE hv)
  refine ⟨w', hr, ⟨_, ho, fun x => ?_⟩, hg⟩
  by_cases hx : x = a
  · subst hx
    rw [upd_same]; exact atKey_put_same h.isMap (kJ_key x) _ _
  · have hne : kJ x ≠ kJ a := fun c => hx (by simpa [kJ] using c)
    have e := atKey_put_other (D := D) (d := .lit (.int q v)) (z := .lit (.int q 0)) hne
    rw [upd_other _ hx]
    exact e.trans (hf x)
end
/-- 'm[a] = v' at the operation. -/
theorem wpList_putj {w : World} {K E t : TypeId} {q : IntKind} {b n : Nat} {f : Int → Int} {ops : Array Oper} {rest : List Oper} {o : Oper} {a : Act} {Q : Exit → Act → World → Prop} (hg : o.guard = none) (m x v : Operand) (hop : o.op = Op.mapUpdate t m x v)
    (hM : MapJ w K E q b n f) (hK : Tryz.prog.underlying K = some (.int .i64)) (hE : Tryz.prog.underlying E = some (.int q)) (ht : Tryz.prog.underlying t = some (.map K E)) (hm : a.eval m = .map (some b)) (hn : n < maxLen) (k u : Int) (hx : a.eval x = .int .i64 k) (hv : a.eval v = .int q u) (hk : (Lit.int .i64 k).wf = true) (hu : (Lit.int q u).wf = true)
    (hC : ∀ w', MapJ w' K E q b (n + 1) (upd f k u) → w.grownBy w' (some b) → wpList Tryz.prog ops Q rest (a.put o.dst undef) w') :
    wpList Tryz.prog ops Q (o :: rest) a w := by
  refine wpList_plain hg fun K' hK' => ?_
  obtain ⟨w', hrun, r1, r2⟩ := hM.put hK hE ht hk hu hn
  unfold Oper.wp
  simp [execOp, hop, hm, hx, hv, hrun, Result.andThen]
  exact hK' _ _ (hC w' r1 r2)
theorem look_j {w : World} {K E t : TypeId} {q : IntKind} {m n : Nat} {f : Int → Int} (h : MapJ w K E q m n f) (hK : Tryz.prog.underlying K = some (.int .i64)) (hE : Tryz.prog.underlying E = some (.int q)) (hz : (zeroValue E).run Tryz.prog w = .ok (.int q 0) w) (ht : Tryz.prog.underlying t = some (.map K E)) {a v : Int} (ha : (Lit.int .i64 a).wf = true) (hv : f a = v) :
    (Instr.lookup t (.map (some m)) (.int .i64 a) false).run Tryz.prog w = .ok (.int q v) w := by
  have := (h.look hK hE hz ht ha).1
  rwa [hv] at this
end Go.Proofs.YtdbgfidnccpmdaaGreat

/-
  hists.Well: is a history well?
-/
namespace Go.Proofs.YtdbgfidnccpmdaaGreat
open Go.RowKit Go.Maps Go.Sort
set_option linter.unusedVariables false

def HC.cw (x : HC) : Cw := ⟨x.th, x.fr, x.to, x.pt⟩
def cws (l : List HC) : List Cw := l.map HC.cw
theorem cws_take (l : List HC) (k : Nat) (x : HC) (h : l[k]? = some x) : cws (l.take (k + 1)) = cws (l.take k) ++ [x.cw] := by unfold cws; rw [List.take_add_one, h]; simp
theorem cws_pts (l : List HC) : (cws l).map Cw.pt = HC.pts l := by simp [cws, HC.pts, HC.cw]
theorem wel_iff (h : Hst) {O : List En} (ho : IsOrd (HC.pts h.cs) (HD.sts h.ds) O) : Wel (cws h.cs) (HD.sts h.ds) ↔ CwOk (cws h.cs) ∧ (O.map En.st).Nodup := by
  unfold Wel; rw [cws_pts, ord_nodup ho]
theorem cws_takeall (l : List HC) (k : Nat) : cws (l.take k) = (cws l).take k := by simp [cws]
theorem no_wel {h : Hst} {k : Nat} {x : HC} (hx : h.cs[k]? = some x) (hn : ¬ CwOk (cws (h.cs.take k) ++ [x.cw])) (ds : List Int) : ¬ Wel (cws h.cs) ds := fun c => hn (by
  rw [← cws_take _ _ _ hx, cws_takeall]; exact cwok_take c.1 _)
theorem ERow.keep {w w' : World} {base m : Nat} {v : Value} {l : List En} (h : ERow w base v l) (hk : Keeps (· = m) w w') (hm : m < base) : ERow w' base v l := by
  rcases h with h | ⟨g, cur, h1, h2, h3, h4⟩
  · exact .inl h
  · exact .inr ⟨g, cur, h1, h2, (hk.block g (Array.getElem?_eq_some_iff.1 h3).1 (fun c => by have : g = m := c; omega)).trans h3, h4⟩
def WellPost (h : Hst) (w : World) (e : Ending) (w' : World) : Prop := ∃ g, e = .returned (.bool g) ∧ Below w.heap.size w w' ∧ (g = true ↔ Wel (cws h.cs) (HD.sts h.ds))
set_option maxRecDepth 100000 in
set_option maxHeartbeats 8000000 in
theorem well_any (h : Hst) (w : World) (hr : HstRd w h) (h1 : h.cs.length ≤ 120) (h2 : h.ds.length ≤ 60) :
    Calls Tryz.prog 71 #[.agg #[.slice h.ca h.cs.length h.cc, .slice h.da h.ds.length h.dc]] w (WellPost h w) := by
  have hB := hballoc w (.cells h.cells 171)
  have z := heap_alloc_new w (.cells h.cells 171)
  have HR := Lib.hid (hr.below hB); have HB := Lib.hid hB; have HZ := Lib.hid z
  have H1 := Lib.hid h1; have H2 := Lib.hid h2
  clear hr hB z h1 h2
  have hmm := @run_makeMap Tryz.prog
  go_enter Tryz.func71, Tryz.ntmps71
  go_upto_region 1 with (fail)
  change Code.wp _ _ _ _ (w.alloc (.cells h.cells 171))
  obtain ⟨w1, hw1⟩ : ∃ w1, w1 = w.alloc (.cells h.cells 171) := ⟨_, rfl⟩
  rw [← hw1] at HR HB HZ ⊢
  clear hw1
  go_upto_region 2 with (fail)
  change Code.wp _ _ _ _ (w1.alloc (.map #[] 0))
  have hm1 := MapJ.made w1 3 3 .i64
  have hb2 := hballoc w1 (.map #[] 0)
  generalize w1.alloc (.map #[] 0) = w2 at *
  obtain ⟨m1, hm1e⟩ : ∃ m1, m1 = w1.heap.size := ⟨_, rfl⟩
  rw [← hm1e] at hm1 ⊢
  have HM1 := Lib.hid hm1; have HB2 := Lib.hid hb2; have HME := Lib.hid hm1e
  have c0 : w2.cell? ⟨w.heap.size, 0, none⟩ = some (.slice h.ca h.cs.length h.cc) := hblk ((hb2.block _ (Array.getElem?_eq_some_iff.1 HZ.out).1).trans HZ.out) 0
  have hc0 : (h.cs.length : Int) ≤ 120 := by have := H1.out; omega
  clear hm1 hb2 hm1e
  go_wp2_with fail
  clear c0
  go_loopw [5, 14] (fun _ i wr => ∃ k : Nat, k ≤ h.cs.length ∧ i = .int .i64 k ∧ Hid (CwOk (cws (h.cs.take k)) ∧ MapJ wr 3 3 .i64 m1 k (lastTo (cws (h.cs.take k)))) ∧ Below w1.heap.size w1 wr) (fun _ i _ => h.cs.length - (intOf i).toNat)
  case atStart => exact ⟨0, by omega, rfl, ⟨⟨fun c hc => by (simp [cws] at hc), by simp [cws]⟩, HM1.out⟩, HB2.out⟩
  case round =>
    clear HM1 HB2
    obtain ⟨k, hk, rfl, P, hbw⟩ := hrel
    have HBW := Lib.hid hbw
    by_cases hlt : k < h.cs.length
    · have hlt' : (k : Int) < h.cs.length := by omega
      obtain ⟨b, off, x, cl, hca, hx, hcl, hsz, h1c, hld⟩ := (HR.out.cs.below hbw).whole k hlt
      have q0 : cl.toArray[0]? = some (.int .i64 x.th) := by rw [hcl]; rfl
      have q8 : cl.toArray[8]? = some (.int .i64 x.fr) := by rw [hcl]; rfl
      have q9 : cl.toArray[9]? = some (.int .i64 x.to) := by rw [hcl]; rfl
      have q19 : cl.toArray[19]? = some (.int .i64 x.pt) := by rw [hcl]; rfl
      have hwf : x.wf := HR.out.cs.wf x (List.mem_of_getElem? hx)
      have hi20 : (Tryz.prog.info? 168).map (·.size) = some cl.length := by rw [hsz]; kernel_rfl
      have QQ := Lib.hid (And.intro q0 (And.intro q8 (And.intro q9 q19)))
      have HX := Lib.hid hx; have HLT := Lib.hid hlt; have H1C := Lib.hid h1c; have HLD := Lib.hid hld; have HI20 := Lib.hid hi20; have HSZ := Lib.hid hsz
      have HWF := Lib.hid (And.intro hwf.th hwf.to)
      have hsn := cwok_snoc P.out.1 x.cw
      obtain ⟨ok, hok⟩ : ∃ ok : Bool, ok = decide (0 ≤ x.th ∧ x.th ≤ 63 ∧ lastTo (cws (h.cs.take k)) x.th ≤ x.fr ∧ x.fr < x.pt ∧ x.pt ≤ x.to) := ⟨_, rfl⟩
      have hok2 : ok = true ↔ CwOk (cws (h.cs.take k) ++ [x.cw]) := by rw [hsn, hok, decide_eq_true_eq]; exact Iff.rfl
      have HOK := Lib.hid hok; have HOK2 := Lib.hid hok2
      rw [hca]
      have HCA := Lib.hid hca
      clear hx hbw hlt hk q0 q8 q9 q19 h1c hld hcl hsz hi20 hwf hsn hok hok2
      go_upto_region 5 with (first
        | (refine wpList_load_mid rfl 168 (.tmp 16) rfl b (off + k * 20) rfl cl _ HLD.out Tryz.underlying168 rfl HI20.out ?_)
        | (refine wpList_store_new rfl 168 (.tmp 5) (.tmp 17) rfl wr _ cl.toArray rfl rfl HI20.out (by simp [HSZ.out]) H1C.out ?_))
      go_frame
      have hb5 := hballoc wr (.cells cl.toArray 168)
      have hz5 := heap_alloc_new wr (.cells cl.toArray 168)
      generalize wr.alloc (.cells cl.toArray 168) = w5 at *
      have cth := (hblk hz5 0).trans QQ.out.1
      have cfr := (hblk hz5 8).trans QQ.out.2.1
      have cto := (hblk hz5 9).trans QQ.out.2.2.1
      have cpt := (hblk hz5 19).trans QQ.out.2.2.2
      have HM5 := Lib.hid (P.out.2.below hb5)
      have HB5 := Lib.hid (HBW.out.trans (hb5.mono HBW.out.size))
      obtain ⟨L, hL⟩ : ∃ L, L = lastTo (cws (h.cs.take k)) x.th := ⟨_, rfl⟩
      have hlk := look_j (t := 287) HM5.out Tryz.underlying3 Tryz.underlying3 (by kernel_rfl) Tryz.underlying287 HWF.out.1 hL.symm
      have HOK3 : Hid (ok = decide (0 ≤ x.th ∧ x.th ≤ 63 ∧ L ≤ x.fr ∧ x.fr < x.pt ∧ x.pt ≤ x.to)) := by rw [hL]; exact HOK.out
      clear hb5 hz5 hL
      go_cut [48] (fun v48 wx => v48 = .bool (!ok) ∧ wx = w5)
      case first =>
        by_cases t1 : x.th < 0
        · have T := Lib.hid t1
          go_wp2
          all_goals go_meet
          all_goals exact ⟨by rw [HOK3.out, decide_eq_false (by have := T.out; omega)]; rfl, rfl⟩
        · by_cases t2 : 64 ≤ x.th
          · have T := Lib.hid t2
            go_wp2
            all_goals go_meet
            all_goals exact ⟨by rw [HOK3.out, decide_eq_false (by have := T.out; omega)]; rfl, rfl⟩
          · by_cases t3 : x.fr < L
            · have T := Lib.hid t3
              go_wp2
              all_goals go_meet
              all_goals exact ⟨by rw [HOK3.out, decide_eq_false (by have := T.out; omega)]; rfl, rfl⟩
            · by_cases t4 : x.pt ≤ x.fr
              · have T := Lib.hid t4
                go_wp2
                all_goals go_meet
                all_goals exact ⟨by rw [HOK3.out, decide_eq_false (by have := T.out; omega)]; rfl, rfl⟩
              · by_cases t5 : x.to < x.pt
                · have T := Lib.hid t5
                  go_wp2
                  all_goals go_meet
                  all_goals exact ⟨by rw [HOK3.out, decide_eq_false (by have := T.out; omega)]; rfl, rfl⟩
                · have T : Hid (0 ≤ x.th ∧ x.th ≤ 63 ∧ L ≤ x.fr ∧ x.fr < x.pt ∧ x.pt ≤ x.to) := by show _ ∧ _; omega
                  go_wp2
                  all_goals go_meet
                  all_goals exact ⟨by rw [HOK3.out, decide_eq_true T.out]; rfl, rfl⟩
      case rest =>
        obtain ⟨rfl, rfl⟩ := hcut
        clear hlk
        cases ok
        · go_wp2
          go_ret
          have hno := no_wel HX.out (fun d => by have := HOK2.out.2 d; cases this) (HD.sts h.ds)
          exact ⟨false, rfl, HB.out.trans (HB5.out.mono HB.out.size), ⟨fun c => (by cases c), fun c => absurd c hno⟩⟩
        · have hkm : k < maxLen := by have h1 := HLT.out; have h2 := H1.out; unfold maxLen; omega
          have HKM := Lib.hid hkm
          clear hkm
          go_wp2_with (at_mapUpdate; refine wpList_putj rfl _ _ _ rfl HM5.out Tryz.underlying3 Tryz.underlying3 Tryz.underlying287 rfl HKM.out _ _ rfl rfl HWF.out.1 HWF.out.2 ?_; intro w9 hm9 hg9; have HM9 := Lib.hid hm9; have HB9 : Hid (Below w1.heap.size w1 w9) := HB5.out.trans ⟨hg9.os, hg9.tape, hg9.output, hg9.size, fun j hj => hg9.block j (Nat.lt_of_lt_of_le hj HB5.out.size) (fun c => by cases c; have := HME.out; omega)⟩; clear hm9 hg9)
          have Q : Hid (CwOk (cws (h.cs.take (k + 1))) ∧ MapJ w9 3 3 .i64 m1 (k + 1) (lastTo (cws (h.cs.take (k + 1))))) := by
            show _ ∧ _
            rw [cws_take _ _ _ HX.out]
            refine ⟨HOK2.out.1 rfl, ?_⟩
            have e : lastTo (cws (h.cs.take k) ++ [x.cw]) = upd (lastTo (cws (h.cs.take k))) x.th x.to := by
              funext t
              rw [lastTo_snoc]
              unfold upd
              show (if x.th = t then x.to else _) = if t = x.th then x.to else _
              by_cases ht : x.th = t
              · rw [if_pos ht, if_pos ht.symm]
              · rw [if_neg ht, if_neg (fun c => ht c.symm)]
            rw [e]; exact HM9.out
          go_roundw
          case rel => exact ⟨k + 1, HLT.out, by go_num, Q, HB9.out⟩
          case measure => have := HLT.out; simp [intOf]; omega
    · obtain rfl : k = h.cs.length := by omega
      rw [List.take_length] at P
      have HOK := Lib.hid P.out.1
      clear P hbw hk hlt
      go_upto_region 10 with (fail)
      change Code.wp _ _ _ _ (wr.alloc (.map #[] 0))
      have hm1 := MapJ.made wr 3 3 .i64
      have hb2 := HBW.out.trans ((hballoc wr (.map #[] 0)).mono HBW.out.size)
      generalize wr.alloc (.map #[] 0) = w3 at *
      obtain ⟨m2, hm2e⟩ : ∃ m2, m2 = wr.heap.size := ⟨_, rfl⟩
      rw [← hm2e] at hm1 ⊢
      have HM2 := Lib.hid hm1; have HB3 := Lib.hid hb2
      have HM2E : Hid (w1.heap.size ≤ m2) := by show _ ≤ _; rw [hm2e]; exact HBW.out.size
      have hz3 := (hb2.block _ (Array.getElem?_eq_some_iff.1 HZ.out).1).trans HZ.out
      have c0 : w3.cell? ⟨w.heap.size, 0, none⟩ = some (.slice h.ca h.cs.length h.cc) := hblk hz3 0
      have c1 : w3.cell? ⟨w.heap.size, 1, none⟩ = some (.slice h.da h.ds.length h.dc) := hblk hz3 1
      have hord := order_any h w3 (HR.out.below hb2) H1.out H2.out
      clear hm1 hb2 hm2e hz3
      go_upto_region 11 with (go_at_call 70; refine hord.mono ?_; rintro e w4 ⟨v, O, rfl, he, ho, hb4⟩; obtain ⟨oa, rfl, hol⟩ := he.sl; have HE := Lib.hid he; have HO := Lib.hid ho; have HM4 := Lib.hid (HM2.out.below hb4); have HB4 := Lib.hid (HB3.out.trans (hb4.mono HB3.out.size)); have HMLT := Lib.hid (Nat.lt_of_lt_of_le HM2.out.lt hb4.size); clear he ho hb4 hord c0 c1)
      have hol2 : (O.length : Int) ≤ 180 := by have h1 := HO.out.len; have h2 := H1.out; have h3 := H2.out; simp only [HC.pts, HD.sts, List.length_map] at h1; omega
      clear hol
      have HMB := Lib.hid HM2.out.lt
      clear HM2
      go_wp2_with fail
      go_loopw [7, 8, 9, 59] (fun _ _ _ i wr => ∃ (k : Nat) (f : Int → Int), k ≤ O.length ∧ i = .int .i64 k ∧ Hid (((O.take k).map En.st).Nodup ∧ MapJ wr 3 3 .i64 m2 k f ∧ ∀ s, 0 < f s ↔ s ∈ (O.take k).map En.st) ∧ Keeps (· = m2) w4 wr) (fun _ _ _ i _ => O.length - (intOf i).toNat)
      case atStart => exact ⟨0, _, by omega, rfl, ⟨by simp, HM4.out, fun s => by simp⟩, below_keeps (Below.refl _ _) _⟩
      case round =>
        clear HM4
        obtain ⟨k, f, hk, rfl, P, hkp⟩ := hrel
        have HKP := Lib.hid hkp
        have hbase := keeps_below hkp HB4.out HB4.out.size (fun j hj => by have := HM2E.out; omega)
        have HBB := Lib.hid (HB.out.trans (hbase.mono HB.out.size))
        by_cases hlt : k < O.length
        · have hlt' : (k : Int) < O.length := by omega
          obtain ⟨g, x, rfl, hx, e0, e1, e2⟩ := (HE.out.keep hkp HMB.out).at k hlt
          have HX := Lib.hid hx; have HLT := Lib.hid hlt
          have hwf : (Lit.int .i64 x.st).wf = true := by
            have hm : x ∈ O := List.mem_of_getElem? hx
            rcases HO.out.mem hm with ⟨j, hj, rfl⟩ | ⟨j, hj, rfl⟩
            · have hj2 : j < h.cs.length := by simpa [HC.pts] using hj
              have := HR.out.cs.wf _ (List.getElem_mem hj2)
              simpa [HC.pts] using this.pt
            · have hj2 : j < h.ds.length := by simpa [HD.sts] using hj
              have := HR.out.ds.wf _ (List.getElem_mem hj2)
              simpa [HD.sts] using this.st
          have HWF := Lib.hid hwf
          clear hx hlt hk hwf hbase hkp
          go_upto_region 13 with (fail)
          have hb5 := hballoc wr (.cells #[.int .i64 x.st, .int .i64 x.ca, .int .i64 x.dr] 176)
          have hz5 := heap_alloc_new wr (.cells #[.int .i64 x.st, .int .i64 x.ca, .int .i64 x.dr] 176)
          clear e0 e1 e2
          generalize wr.alloc (.cells #[.int .i64 x.st, .int .i64 x.ca, .int .i64 x.dr] 176) = w5 at *
          have cst : w5.cell? ⟨wr.heap.size, 0, none⟩ = some (.int .i64 x.st) := hblk hz5 0
          have HM5 := Lib.hid (P.out.2.1.below hb5)
          have HK5 := Lib.hid (HKP.out.again (below_keeps hb5 (· = m2)))
          have HB5 := Lib.hid (HBB.out.trans (hb5.mono HBB.out.size))
          obtain ⟨y, hy⟩ : ∃ y, y = f x.st := ⟨_, rfl⟩
          have hlk := look_j (t := 287) HM5.out Tryz.underlying3 Tryz.underlying3 (by kernel_rfl) Tryz.underlying287 HWF.out hy.symm
          have HY := Lib.hid hy
          clear hb5 hz5 hy
          by_cases hpos : 0 < y
          · have HPOS := Lib.hid hpos
            go_wp2
            go_ret
            have hin := (P.out.2.2 x.st).1 (by rw [← HY.out]; exact HPOS.out)
            exact ⟨false, rfl, HB5.out, ⟨fun c => (by cases c), fun c => by
              have hnd := ((wel_iff h HO.out).1 c).2
              have h3 : ((O.take (k + 1)).map En.st).Nodup := (hnd.sublist ((List.take_sublist _ _).map _))
              rw [List.take_add_one, HX.out] at h3
              simp only [Option.toList, List.map_append, List.map_cons, List.map_nil] at h3
              rw [List.nodup_append] at h3
              exact absurd rfl (h3.2.2 _ hin _ (by simp))⟩⟩
          · have HPOS := Lib.hid hpos
            have hkm : k < maxLen := by have h1 := HLT.out; unfold maxLen; omega
            have HKM := Lib.hid hkm
            have hvw : (Lit.int .i64 ((k : Int) + 1)).wf = true := by have h1 := HLT.out; simp [Lit.wf, IntKind.min, IntKind.max, IntKind.bits, IntKind.signed]; omega
            have HVW := Lib.hid hvw
            have hk180 : (k : Int) ≤ 180 := by have := HLT.out; omega
            clear hkm hvw
            go_wp2_with (at_mapUpdate; refine wpList_putj rfl _ _ _ rfl HM5.out Tryz.underlying3 Tryz.underlying3 Tryz.underlying287 rfl HKM.out _ _ rfl rfl HWF.out HVW.out ?_; intro w9 hm9 hg9; have HM9 := Lib.hid hm9; have HK9 : Hid (Keeps (· = m2) w4 w9) := HK5.out.again ⟨hg9.os, hg9.tape, hg9.output, hg9.size, fun j hj hne => hg9.block j hj (fun c => by cases c; exact hne rfl)⟩; clear hm9 hg9)
            have hni : x.st ∉ (O.take k).map En.st := fun c => by have := (P.out.2.2 x.st).2 c; rw [← HY.out] at this; exact HPOS.out this
            have Q : Hid (((O.take (k + 1)).map En.st).Nodup ∧ MapJ w9 3 3 .i64 m2 (k + 1) (upd f x.st ((k : Int) + 1)) ∧ ∀ s, 0 < upd f x.st ((k : Int) + 1) s ↔ s ∈ (O.take (k + 1)).map En.st) := by
              have e : (O.take (k + 1)).map En.st = (O.take k).map En.st ++ [x.st] := by rw [List.take_add_one, HX.out]; simp
              refine ⟨?_, HM9.out, fun s => ?_⟩
              · rw [e, List.nodup_append]
                exact ⟨P.out.1, by simp, fun a ha b hb c => by simp at hb; subst hb; subst c; exact hni ha⟩
              · rw [e]
                unfold upd
                by_cases hs : s = x.st
                · rw [if_pos hs]; simp [hs]; try omega
                · rw [if_neg hs, P.out.2.2 s]; simp [hs]
            go_roundw
            case rel => exact ⟨k + 1, _, HLT.out, by go_num, Q, HK9.out⟩
            case measure => have := HLT.out; simp [intOf]; omega
        · obtain rfl : k = O.length := by omega
          rw [List.take_length] at P
          have HND := Lib.hid P.out.1
          clear P hbase hkp hk hlt
          go_wp2
          go_ret
          exact ⟨true, rfl, HBB.out, ⟨fun _ => (wel_iff h HO.out).2 ⟨HOK.out, HND.out⟩, fun _ => rfl⟩⟩
end Go.Proofs.YtdbgfidnccpmdaaGreat

/-
  Histories: layer 34's example.
-/
namespace Go.Proofs.YtdbgfidnccpmdaaGreat
open Go.RowKit Go.Maps Go.Sort
set_option linter.unusedVariables false

def x34a : HC := ⟨0, 0, ⟨#[]⟩, ⟨#[]⟩, 0, 0, 0, 0, 0, 4, 0, 0, ⟨#[]⟩, ⟨#[]⟩, 0, 0, 0, 0, 0, 3⟩
def x34b : HC := ⟨1, 0, ⟨#[]⟩, ⟨#[]⟩, 0, 0, 0, 0, 1, 9, 0, 0, ⟨#[]⟩, ⟨#[]⟩, 0, 0, 0, 0, 0, 6⟩
def d34 (s : Int) : HD := ⟨s, ⟨#[]⟩, ⟨#[]⟩, 0, 0, 0, 0⟩
def h34 (a d : Nat) (s : Int) : Hst := ⟨some ⟨a, 0, none⟩, 2, [x34a, x34b], some ⟨d, 0, none⟩, 1, [d34 s]⟩
theorem x34a_wf : x34a.wf := by constructor <;> decide
theorem x34b_wf : x34b.wf := by constructor <;> decide
theorem d34_wf (s : Int) (h : (Lit.int .i64 s).wf = true) : (d34 s).wf :=
  ⟨h, (by decide : (⟨#[]⟩ : ByteArray).size ≤ maxLen), (by decide : (⟨#[]⟩ : ByteArray).size ≤ maxLen), (by decide : (Lit.int .u32 0).wf = true), (by decide : (Lit.int .u64 0).wf = true), (by decide : (Lit.int .i64 0).wf = true), (by decide : (Lit.int .i64 0).wf = true)⟩
theorem h34_rd {w : World} {a d : Nat} {s : Int} (hs : (Lit.int .i64 s).wf = true) (ha : w.heap[a]? = some (.cells (x34a.cells ++ x34b.cells).toArray 168 (0, 0))) (hd : w.heap[d]? = some (.cells (d34 s).cells.toArray 54 (0, 0))) : HstRd w (h34 a d s) := by
  refine ⟨⟨Nat.le_refl 2, by show 2 ≤ maxLen; unfold maxLen; decide, (fun c => by cases c), fun x hx => ?_, .inr ⟨a, 0, rfl, fun i hi j hj => ?_⟩⟩, ⟨Nat.le_refl 1, by show 1 ≤ maxLen; unfold maxLen; decide, (fun c => by cases c), fun x hx => ?_, .inr ⟨d, 0, rfl, fun i hi j hj => ?_⟩⟩⟩
  · rcases List.mem_cons.1 hx with rfl | hx
    · exact x34a_wf
    · rw [List.mem_singleton.1 hx]; exact x34b_wf
  · rw [hblk ha]
    have hi2 : i < 2 := hi
    match i, hi2 with
    | 0, _ =>
      show (x34a.cells ++ x34b.cells).toArray[0 + (0 * 20 + j)]? = x34a.cells[j]?
      rw [List.getElem?_toArray, show 0 + (0 * 20 + j) = j by omega, List.getElem?_append_left (by show j < 20; omega)]
    | 1, _ =>
      show (x34a.cells ++ x34b.cells).toArray[0 + (1 * 20 + j)]? = x34b.cells[j]?
      rw [List.getElem?_toArray, show 0 + (1 * 20 + j) = 20 + j by omega, List.getElem?_append_right (by show 20 ≤ 20 + j; omega)]
      congr 1
      show 20 + j - 20 = j
      omega
  · rw [List.mem_singleton.1 hx]; exact d34_wf s hs
  · rw [hblk hd]
    have hi2 : i < 1 := hi
    match i, hi2 with
    | 0, _ =>
      show (d34 s).cells.toArray[0 + (0 * 7 + j)]? = (d34 s).cells[j]?
      rw [List.getElem?_toArray, show 0 + (0 * 7 + j) = j by omega]
theorem ord5 {a d : Nat} {O : List En} (h : IsOrd (HC.pts (h34 a d 5).cs) (HD.sts (h34 a d 5).ds) O) : O = [⟨3, 0, -1⟩, ⟨5, -1, 0⟩, ⟨6, 1, -1⟩] := by
  refine h.unique ⟨?_, ?_⟩
  · show List.Perm _ ([⟨3, 0, -1⟩, ⟨6, 1, -1⟩, ⟨5, -1, 0⟩] : List En)
    exact List.Perm.cons _ (List.Perm.swap _ _ _)
  · simp [ETL, TL, List.pairwise_cons]
theorem ord6 {a d : Nat} {O : List En} (h : IsOrd (HC.pts (h34 a d 6).cs) (HD.sts (h34 a d 6).ds) O) : O = [⟨3, 0, -1⟩, ⟨6, 1, -1⟩, ⟨6, -1, 0⟩] := by
  refine h.unique ⟨?_, ?_⟩
  · exact List.Perm.refl _
  · simp [ETL, TL, List.pairwise_cons, En.rk]
theorem cw34 (a d : Nat) (s : Int) : CwOk (cws (h34 a d s).cs) := by
  refine ⟨fun c hc => ?_, ?_⟩
  · have hc : c ∈ [x34a.cw, x34b.cw] := hc
    rcases List.mem_cons.1 hc with rfl | hc
    · unfold Cw.ok; decide
    · rw [List.mem_singleton.1 hc]; unfold Cw.ok; decide
  · show List.Pairwise _ [x34a.cw, x34b.cw]
    refine List.pairwise_cons.2 ⟨fun c hc hcc => ?_, List.pairwise_singleton _ _⟩
    rw [List.mem_singleton.1 hc] at hcc
    exact absurd hcc (by decide)
theorem well5 (a d : Nat) : Wel (cws (h34 a d 5).cs) (HD.sts (h34 a d 5).ds) := ⟨cw34 a d 5, by show List.Nodup [3, 6, 5]; decide⟩
theorem well6 (a d : Nat) : ¬ Wel (cws (h34 a d 6).cs) (HD.sts (h34 a d 6).ds) := fun h => absurd h.2 (by show ¬ List.Nodup [3, 6, 6]; decide)
set_option maxRecDepth 100000 in
set_option maxHeartbeats 4000000 in
theorem lives34 (w : World) : Calls Tryz.prog 11 #[] w fun e w' => e = .returned (.bool true) ∧ Below w.heap.size w w' := by
  go_enter Tryz.func11, Tryz.ntmps11
  go_upto_region 2 with (fail)
  change Code.wp _ _ _ _ (((w.alloc (.cells (x34a.cells ++ x34b.cells).toArray 168)).alloc (.cells (d34 5).cells.toArray 54)).alloc (.cells (h34 w.heap.size (w.heap.size + 1) 5).cells 171))
  obtain ⟨a, ha⟩ : ∃ a, a = w.heap.size := ⟨_, rfl⟩
  obtain ⟨d, hd⟩ : ∃ d, d = w.heap.size + 1 := ⟨_, rfl⟩
  have b1 := hballoc w (.cells (x34a.cells ++ x34b.cells).toArray 168)
  have z1 := heap_alloc_new w (.cells (x34a.cells ++ x34b.cells).toArray 168)
  have s1 : (w.alloc (.cells (x34a.cells ++ x34b.cells).toArray 168)).heap.size = w.heap.size + 1 := by simp
  generalize w.alloc (.cells (x34a.cells ++ x34b.cells).toArray 168) = w1 at *
  have b2 := hballoc w1 (.cells (d34 5).cells.toArray 54)
  have z2 := heap_alloc_new w1 (.cells (d34 5).cells.toArray 54)
  have s2 : (w1.alloc (.cells (d34 5).cells.toArray 54)).heap.size = w.heap.size + 1 + 1 := by simp [s1]
  generalize w1.alloc (.cells (d34 5).cells.toArray 54) = w2 at *
  rw [s1, ← hd] at z2
  rw [← ha] at z1
  rw [← hd, ← ha]
  have b3 := hballoc w2 (.cells (h34 a d 5).cells 171)
  have z3 := heap_alloc_new w2 (.cells (h34 a d 5).cells 171)
  rw [s2, ← hd] at z3
  obtain ⟨q, hq⟩ : ∃ q, q = d + 1 := ⟨_, rfl⟩
  rw [← hq] at z3 ⊢
  generalize w2.alloc (.cells (h34 a d 5).cells 171) = w3 at *
  have za := (b3.block _ (Array.getElem?_eq_some_iff.1 ((b2.block _ (Array.getElem?_eq_some_iff.1 z1).1).trans z1)).1).trans ((b2.block _ (Array.getElem?_eq_some_iff.1 z1).1).trans z1)
  have zd := (b3.block _ (Array.getElem?_eq_some_iff.1 z2).1).trans z2
  have B3 := Lib.hid ((b1.trans (b2.mono b1.size)).trans (b3.mono (b1.trans (b2.mono b1.size)).size))
  have R5 := Lib.hid (h34_rd (a := a) (d := d) (s := 5) (by decide) za zd)
  have ZA := Lib.hid za; have ZD := Lib.hid zd; have ZQ := Lib.hid z3
  have HLO := Lib.hid (show w.heap.size ≤ d by omega)
  have HQD := Lib.hid (show q ≠ d by omega)
  have HAD := Lib.hid (show a ≠ d by omega)
  have p0 : w3.cell? ⟨q, 0, none⟩ = some (.slice (some ⟨a, 0, none⟩) 2 2) := hblk z3 0
  have p1 : w3.cell? ⟨q, 1, none⟩ = some (.slice (some ⟨d, 0, none⟩) 1 1) := hblk z3 1
  have hord := order_any (h34 a d 5) w3 R5.out (by show 2 ≤ 120; decide) (by show 1 ≤ 60; decide)
  have HD3 := Lib.hid (show d < w3.heap.size from (Array.getElem?_eq_some_iff.1 ZD.out).1)
  clear b1 b2 b3 z1 z2 z3 za zd s1 s2 hq hd ha
  go_upto_region 3 with (go_at_call 70; refine hord.mono ?_; rintro e w4 ⟨v, O, rfl, he, ho, hb4⟩; obtain rfl := ord5 ho; obtain ⟨oa, rfl, -⟩ := he.sl; have HE4 := Lib.hid he; have B4 := Lib.hid hb4; clear he ho hb4 hord p0 p1)
  have z4 := (B4.out.block _ (Array.getElem?_eq_some_iff.1 ZQ.out).1).trans ZQ.out
  have p0 : w4.cell? ⟨q, 0, none⟩ = some (.slice (some ⟨a, 0, none⟩) 2 2) := hblk z4 0
  have p1 : w4.cell? ⟨q, 1, none⟩ = some (.slice (some ⟨d, 0, none⟩) 1 1) := hblk z4 1
  have hwl := well_any (h34 a d 5) w4 (R5.out.below B4.out) (by show 2 ≤ 120; decide) (by show 1 ≤ 60; decide)
  clear z4
  go_upto_region 4 with (go_at_call 71; refine hwl.mono ?_; rintro e w5 ⟨g, rfl, hb5, hg⟩; obtain rfl := hg.2 (well5 a d); have HE5 := Lib.hid (HE4.out.below hb5); have B5 := Lib.hid (B4.out.trans (hb5.mono B4.out.size)); clear hg hb5 hwl p0 p1)
  have z5 := (B5.out.block _ (Array.getElem?_eq_some_iff.1 ZQ.out).1).trans ZQ.out
  have y5 := (B5.out.block _ (Array.getElem?_eq_some_iff.1 ZD.out).1).trans ZD.out
  have x5 := (B5.out.block _ (Array.getElem?_eq_some_iff.1 ZA.out).1).trans ZA.out
  have p1 : w5.cell? ⟨q, 1, none⟩ = some (.slice (some ⟨d, 0, none⟩) 1 1) := hblk z5 1
  have r0 : w5.cell? ⟨d, 0, none⟩ = some (.int .i64 5) := hblk y5 0
  have r1 : w5.frozen? ⟨d, 0, none⟩ = false := hbfz y5 0
  have hk6 := setCell_keeps w5 d 0 (.int .i64 6)
  have y6 : (w5.setCell ⟨d, 0, none⟩ (.int .i64 6)).heap[d]? = some (.cells (d34 6).cells.toArray 54 (0, 0)) := (setCell_same y5 0 (.int .i64 6)).trans rfl
  have z6 := (hk6.block q (Array.getElem?_eq_some_iff.1 z5).1 HQD.out).trans z5
  have x6 := (hk6.block a (Array.getElem?_eq_some_iff.1 x5).1 HAD.out).trans x5
  have HE6 := Lib.hid (HE5.out.keep hk6 HD3.out)
  have hb6 := keeps_below hk6 (B3.out.trans (B5.out.mono B3.out.size)) (Nat.le_trans B3.out.size B5.out.size) (fun j hj => by have := HLO.out; omega)
  have HB6 := Lib.hid hb6; have Y6 := Lib.hid y6; have Z6 := Lib.hid z6; have X6 := Lib.hid x6
  clear z5 y5 x5 hk6 y6 z6 x6 hb6 B5 B4 HE4 HE5
  go_upto_region 5 with (fail)
  generalize w5.setCell ⟨d, 0, none⟩ (.int .i64 6) = w6 at *
  clear p1 r0 r1
  have R6 := Lib.hid (h34_rd (a := a) (d := d) (s := 6) (by decide) X6.out Y6.out)
  have p0 : w6.cell? ⟨q, 0, none⟩ = some (.slice (some ⟨a, 0, none⟩) 2 2) := hblk Z6.out 0
  have p1 : w6.cell? ⟨q, 1, none⟩ = some (.slice (some ⟨d, 0, none⟩) 1 1) := hblk Z6.out 1
  have hord := order_any (h34 a d 6) w6 R6.out (by show 2 ≤ 120; decide) (by show 1 ≤ 60; decide)
  go_upto_region 6 with (go_at_call 70; refine hord.mono ?_; rintro e w7 ⟨v, O, rfl, he, ho, hb7⟩; obtain rfl := ord6 ho; obtain ⟨ob, rfl, -⟩ := he.sl; have HE7 := Lib.hid he; have B7 := Lib.hid hb7; clear he ho hb7 hord p0 p1)
  have z7 := (B7.out.block _ (Array.getElem?_eq_some_iff.1 Z6.out).1).trans Z6.out
  have p0 : w7.cell? ⟨q, 0, none⟩ = some (.slice (some ⟨a, 0, none⟩) 2 2) := hblk z7 0
  have p1 : w7.cell? ⟨q, 1, none⟩ = some (.slice (some ⟨d, 0, none⟩) 1 1) := hblk z7 1
  have hwl : Calls Tryz.prog 71 #[.agg #[.slice (some ⟨a, 0, none⟩) 2 2, .slice (some ⟨d, 0, none⟩) 1 1]] w7 fun e w' => e = .returned (.bool false) ∧ Below w7.heap.size w7 w' := (well_any (h34 a d 6) w7 (R6.out.below B7.out) (by show 2 ≤ 120; decide) (by show 1 ≤ 60; decide)).mono fun e w' ⟨g, h1, h2, h3⟩ => ⟨by cases g; exact h1; exact absurd (h3.1 rfl) (well6 a d), h2⟩
  have key : ∀ w8, Below w7.heap.size w7 w8 → ∃ g1 g4, oa = some ⟨g1, 0, none⟩ ∧ ob = some ⟨g4, 0, none⟩ ∧
      (w8.cell? ⟨g1, 0, none⟩ = some (.int .i64 3) ∧ w8.cell? ⟨g1, 1, none⟩ = some (.int .i64 0) ∧ w8.cell? ⟨g1, 2, none⟩ = some (.int .i64 (-1))) ∧
      (w8.cell? ⟨g1, 3, none⟩ = some (.int .i64 5) ∧ w8.cell? ⟨g1, 4, none⟩ = some (.int .i64 (-1)) ∧ w8.cell? ⟨g1, 5, none⟩ = some (.int .i64 0)) ∧
      (w8.cell? ⟨g1, 6, none⟩ = some (.int .i64 6) ∧ w8.cell? ⟨g1, 7, none⟩ = some (.int .i64 1) ∧ w8.cell? ⟨g1, 8, none⟩ = some (.int .i64 (-1))) ∧
      w8.cell? ⟨g4, 4, none⟩ = some (.int .i64 1) := fun w8 hb8 => by
    have el := (HE6.out.below B7.out).below hb8
    obtain ⟨g1, f1, ha1, hf1, l0, l1, l2⟩ := el.at 0 (by decide)
    obtain ⟨g2, f2, ha2, hf2, l3, l4, l5⟩ := el.at 1 (by decide)
    obtain ⟨g3, f3, ha3, hf3, l6, l7, l8⟩ := el.at 2 (by decide)
    obtain ⟨g4, f4, ha4, hf4, l9, l10, l11⟩ := (HE7.out.below hb8).at 1 (by decide)
    subst ha1
    simp only [Option.some.injEq, Addr.mk.injEq, and_true] at ha2 ha3
    subst ha2 ha3
    cases hf1; cases hf2; cases hf3; cases hf4
    exact ⟨_, _, rfl, ha4, ⟨l0, l1, l2⟩, ⟨l3, l4, l5⟩, ⟨l6, l7, l8⟩, l10⟩
  have KEY := Lib.hid key
  have HB7 := Lib.hid (HB6.out.trans (B7.out.mono HB6.out.size))
  clear key z7
  go_wp2_with (go_at_call 71; refine hwl.mono ?_; rintro e w8 ⟨rfl, hb8⟩; obtain ⟨g1, g4, rfl, rfl, ⟨l0, l1, l2⟩, ⟨l3, l4, l5⟩, ⟨l6, l7, l8⟩, l10⟩ := KEY.out w8 hb8; have HB8 := Lib.hid (HB7.out.trans (hb8.mono HB7.out.size)); clear hb8 hwl)
  go_ret
  exact ⟨rfl, HB8.out⟩
end Go.Proofs.YtdbgfidnccpmdaaGreat
