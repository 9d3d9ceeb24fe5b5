/-
  The plain law of a stable sort: a merge in three parts.
-/
import Derived.Test.YtmagpbbjjkmbpaaStabBlk
namespace Go.Proofs.Ytmagpbbjjkmbpaa
open Go.Sort
set_option linter.unusedVariables false

section
variable {α : Type} [Inhabited α] {st rk : α → Int}
/-- The search of a merge: behind 'start' the test fell out so, at r not. -/
structure Srch (st : α → Int) (d : Array α) (p s0 r0 s r : Nat) : Prop where
  h0 : s0 ≤ s
  h1 : s ≤ r
  h2 : r ≤ r0
  lo : s0 < s → ¬ st d[p - (s - 1)]! < st d[s - 1]!
  hi : r < r0 → st d[p - r]! < st d[r]!
theorem Srch.start {d : Array α} {p s0 r0 : Nat} (h : s0 ≤ r0) : Srch st d p s0 r0 s0 r0 := ⟨Nat.le_refl _, h, Nat.le_refl _, fun c => absurd c (by omega), fun c => absurd c (by omega)⟩
theorem Srch.up {d : Array α} {p s0 r0 s r c : Nat} (h : Srch st d p s0 r0 s r) (h1 : s ≤ c) (h2 : c < r) (hc : ¬ st d[p - c]! < st d[c]!) : Srch st d p s0 r0 (c + 1) r := ⟨by have := h.h0; omega, by omega, h.h2, fun _ => by rw [show c + 1 - 1 = c by omega]; exact hc, h.hi⟩
theorem Srch.down {d : Array α} {p s0 r0 s r c : Nat} (h : Srch st d p s0 r0 s r) (h1 : s ≤ c) (h2 : c < r) (hc : st d[p - c]! < st d[c]!) : Srch st d p s0 r0 s c := ⟨h.h0, h1, by have := h.h2; omega, h.lo, fun _ => hc⟩
/-- What a merge knows where it parts. -/
structure Part (a m b n mid s0 r0 : Nat) : Prop where
  am : a < m
  mb : m < b
  hmid : mid = (a + b) / 2
  hn : n = mid + m
  h : (mid < m ∧ s0 + b = n ∧ r0 = mid) ∨ (m ≤ mid ∧ s0 = a ∧ r0 = m)
theorem Part.of {a m b : Nat} (h1 : a < m) (h2 : m < b) : Part a m b ((a + b) / 2 + m) ((a + b) / 2) (if (a + b) / 2 < m then (a + b) / 2 + m - b else a) (if (a + b) / 2 < m then (a + b) / 2 else m) := by
  refine ⟨h1, h2, rfl, rfl, ?_⟩
  by_cases h : (a + b) / 2 < m
  · rw [if_pos h, if_pos h]; left; omega
  · rw [if_neg h, if_neg h]; right; omega
theorem Part.bd {a m b n mid s0 r0 s : Nat} (P : Part a m b n mid s0 r0) (h0 : s0 ≤ s) (h1 : s ≤ r0) : a ≤ s ∧ s ≤ m ∧ m ≤ n - s ∧ n - s ≤ b ∧ s ≤ mid ∧ mid ≤ n - s ∧ s + (n - s) - m = mid ∧ a < mid + 1 ∧ mid < b ∧ s ≤ n := by
  have h1 := P.am; have h2 := P.mb; have h3 := P.hmid; have h4 := P.hn; have h5 := P.h
  omega
/-- What stands behind the exchange of blocks. -/
theorem part_rot {d d' : Array α} {a m b n mid s0 r0 s : Nat} (P : Part a m b n mid s0 r0) (hb : b ≤ d.size) (S : Srch st d (n - 1) s0 r0 s s) (h1 : Ord st rk d a m) (h2 : Ord st rk d m b) (hl : LoHi rk d a m b) (h : Rot d d' s m (n - s)) :
    Ord st rk d' a s ∧ Ord st rk d' s mid ∧ Ord st rk d' mid (n - s) ∧ Ord st rk d' (n - s) b ∧ LoHi rk d' a s mid ∧ LoHi rk d' mid (n - s) b ∧ Crs st rk d' a mid b := by
  obtain ⟨b1, b2, b3, b4, b5, b6, b7, b8, b9, b10⟩ := P.bd S.h0 S.h2
  have hp := P.h; have hn := P.hn; have hm := P.hmid; have am := P.am; have mb := P.mb
  have h0 := S.h0; have h3 := S.h2
  have key := rot_parts (st := st) (rk := rk) h b1 b2 b3 b4 hb h1 h2 hl
    (by
      by_cases hs : s0 < s
      · have hlo := S.lo hs
        rw [show n - 1 - (s - 1) = n - s by omega] at hlo
        refine .inr (.inr (TL.up (hl (s - 1) (n - s) (by omega) (by omega) b3 (by omega)) hlo))
      · rcases hp with ⟨p1, p2, p3⟩ | ⟨p1, p2, p3⟩
        · exact .inr (.inl (by omega))
        · exact .inl (by omega))
    (by
      by_cases hs : s < r0
      · have hhi := S.hi hs
        rw [show n - 1 - s = n - s - 1 by omega] at hhi
        exact .inr (.inr (TL.of_lt hhi))
      · rcases hp with ⟨p1, p2, p3⟩ | ⟨p1, p2, p3⟩
        · exact .inr (.inl (by omega))
        · exact .inl (by omega))
  rw [b7] at key
  exact key
/-- Both halves merged: the whole is. -/
theorem part_join {d d1 d2 d3 : Array α} {a x b : Nat} (hx : a ≤ x) (hxb : x ≤ b) (hb : b ≤ d.size) (hp : PermIn a b d d1) (hc : Crs st rk d1 a x b) (p2 : PermIn a x d1 d2) (o2 : Ord st rk d2 a x) (p3 : PermIn x b d2 d3) (o3 : Ord st rk d3 x b) : PermIn a b d d3 ∧ Ord st rk d3 a b := by
  have z1 : d1.size = d.size := hp.1
  have z2 : d2.size = d1.size := p2.1
  refine ⟨permIn_trans _ _ _ _ _ (permIn_trans _ _ _ _ _ hp (permIn_mono _ _ _ _ _ _ (Nat.le_refl _) hxb (by omega) p2)) (permIn_mono _ _ _ _ _ _ hx (Nat.le_refl _) (by omega) p3), ?_⟩
  exact ord_join (ord_out p3 (.inl (Nat.le_refl _)) o2) o3 (crs_right p3 (by omega) (crs_left p2 (by omega) hc))
theorem ord_triv_l {d : Array α} {a s x : Nat} (h1 : Ord st rk d a s) (h2 : Ord st rk d s x) (h : ¬ (a < s ∧ s < x)) (ha : a ≤ s) (hs : s ≤ x) : Ord st rk d a x := by
  by_cases h3 : a < s
  · rw [show x = s by omega]; exact h1
  · rw [show a = s by omega]; exact h2
/-- A search in what is in order: first all that are less, then none. -/
structure Bs1 (st : α → Int) (d : Array α) (y : Int) (m b i j : Nat) : Prop where
  h0 : m ≤ i
  h1 : i ≤ j
  h2 : j ≤ b
  lo : ∀ k, m ≤ k → k < i → st d[k]! < y
  hi : ∀ k, j ≤ k → k < b → ¬ st d[k]! < y
theorem Bs1.start {d : Array α} {y : Int} {m b : Nat} (h : m ≤ b) : Bs1 st d y m b m b := ⟨Nat.le_refl _, h, Nat.le_refl _, fun k _ _ => by omega, fun k _ _ => by omega⟩
theorem Bs1.up {d : Array α} {y : Int} {m b i j c : Nat} (h : Bs1 st d y m b i j) (ho : Ord st rk d m b) (h1 : i ≤ c) (h2 : c < j) (hc : st d[c]! < y) : Bs1 st d y m b (c + 1) j := by
  have q0 := h.h0; have q1 := h.h1; have q2 := h.h2
  refine ⟨by omega, by omega, h.h2, fun k k1 k2 => ?_, h.hi⟩
  by_cases hk : k = c
  · rw [hk]; exact hc
  · have := ho k c k1 (by omega) (by omega)
    unfold TL at this; omega
theorem Bs1.down {d : Array α} {y : Int} {m b i j c : Nat} (h : Bs1 st d y m b i j) (ho : Ord st rk d m b) (h1 : i ≤ c) (h2 : c < j) (hc : ¬ st d[c]! < y) : Bs1 st d y m b i c := by
  have q0 := h.h0; have q1 := h.h1; have q2 := h.h2
  refine ⟨h.h0, h1, by omega, h.lo, fun k k1 k2 => ?_⟩
  by_cases hk : k = c
  · rw [hk]; exact hc
  · have := ho c k (by omega) (by omega) k2
    unfold TL at this; omega
structure Bs2 (st : α → Int) (d : Array α) (y : Int) (a m i j : Nat) : Prop where
  h0 : a ≤ i
  h1 : i ≤ j
  h2 : j ≤ m
  lo : ∀ k, a ≤ k → k < i → ¬ y < st d[k]!
  hi : ∀ k, j ≤ k → k < m → y < st d[k]!
theorem Bs2.start {d : Array α} {y : Int} {a m : Nat} (h : a ≤ m) : Bs2 st d y a m a m := ⟨Nat.le_refl _, h, Nat.le_refl _, fun k _ _ => by omega, fun k _ _ => by omega⟩
theorem Bs2.up {d : Array α} {y : Int} {a m i j c : Nat} (h : Bs2 st d y a m i j) (ho : Ord st rk d a m) (h1 : i ≤ c) (h2 : c < j) (hc : ¬ y < st d[c]!) : Bs2 st d y a m (c + 1) j := by
  have q0 := h.h0; have q1 := h.h1; have q2 := h.h2
  refine ⟨by omega, by omega, h.h2, fun k k1 k2 => ?_, h.hi⟩
  by_cases hk : k = c
  · rw [hk]; exact hc
  · have := ho k c k1 (by omega) (by omega)
    unfold TL at this; omega
theorem Bs2.down {d : Array α} {y : Int} {a m i j c : Nat} (h : Bs2 st d y a m i j) (ho : Ord st rk d a m) (h1 : i ≤ c) (h2 : c < j) (hc : y < st d[c]!) : Bs2 st d y a m i c := by
  have q0 := h.h0; have q1 := h.h1; have q2 := h.h2
  refine ⟨h.h0, h1, by omega, h.lo, fun k k1 k2 => ?_⟩
  by_cases hk : k = c
  · rw [hk]; exact hc
  · have := ho c k (by omega) (by omega) k2
    unfold TL at this; omega
end
end Go.Proofs.Ytmagpbbjjkmbpaa
