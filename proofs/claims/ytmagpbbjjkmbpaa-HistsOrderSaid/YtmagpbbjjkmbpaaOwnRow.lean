/-
  Rows that the call made.
-/
import Derived.Test.YtmagpbbjjkmbpaaLib
namespace Go.Proofs.Ytmagpbbjjkmbpaa
open Go.RowKit
set_option linter.unusedVariables false

/-- A row of pointers that the call made. -/
theorem own_lit (w : World) (base e : Nat) (xs : List Value) (hb : base ≤ w.heap.size) (hn : xs.length ≤ maxLen) : (w.alloc (.cells xs.toArray e)).ownsRow base e 1 (.slice (some ⟨w.heap.size, 0, none⟩) xs.length xs.length) xs.length xs :=
  ⟨by simp, .inr ⟨_, _, _, rfl, hb, heap_alloc_new w _, Nat.le_refl _, hn, by simp, by simp⟩⟩
theorem own_at {w : World} {base e n : Nat} {v : Value} {xs : List Value} (h : w.ownsRow base e 1 v n xs) (i : Nat) (hi : i < n) : ∃ g cap x, v = .slice (some ⟨g, 0, none⟩) n cap ∧ xs[i]? = some x ∧ w.cell? ⟨g, i, none⟩ = some x ∧ base ≤ g := by
  obtain ⟨h1, ⟨rfl, h0⟩ | ⟨g, cap, cur, rfl, hb, hg, hn, hm, hs, ht⟩⟩ := h
  · omega
  · have hx : i < xs.length := by omega
    refine ⟨g, cap, xs[i], rfl, List.getElem?_eq_getElem hx, ?_, hb⟩
    have e1 : xs[i]? = (cur.toList.take (n * 1))[i]? := by rw [ht]
    rw [List.getElem?_take, if_pos (by omega), List.getElem?_eq_getElem hx] at e1
    unfold World.cell?; simp only; rw [hg]
    simpa using e1.symm
end Go.Proofs.Ytmagpbbjjkmbpaa
