/-
  A row that has grown, in a frame by types.
-/
import Derived.Test.YtjfocckdbaaimaaFrame
import Derived.Test.YtjfocckdbaaimaaOwnRow
import Derived.Deep.AppendLies
namespace Go.Proofs.Ytjfocckdbaaimaa
open Go.RowKit
set_option linter.unusedVariables false

theorem own_sl2 {w : World} {base e size n : Nat} {v : Value} {xs : List Value} (h : w.ownsRow base e size v n xs) : ∃ a cap, v = .slice a n cap := by
  obtain ⟨-, ⟨rfl, rfl⟩ | ⟨g, cap, cur, rfl, -⟩⟩ := h
  · exact ⟨none, 0, rfl⟩
  · exact ⟨_, cap, rfl⟩
theorem grown_ty {w w' : World} {base e size n : Nat} {v : Value} {xs : List Value} (h : w.ownsRow base e size v n xs) (hg : w.grownBy w' v.ownBlock) : Fr (fun T => T == e) false w w' := by
  obtain ⟨-, ⟨rfl, -⟩ | ⟨g, cap, cur, rfl, -, hb, -⟩⟩ := h
  · exact ⟨hg.size, fun k cs T fr hk _ => (hg.block k (Array.getElem?_eq_some_iff.1 hk).1 (fun c => by simp [Value.ownBlock] at c)).trans hk, fun _ k es cl hk => (hg.block k (Array.getElem?_eq_some_iff.1 hk).1 (fun c => by simp [Value.ownBlock] at c)).trans hk⟩
  · refine ⟨hg.size, fun k cs T fr hk hT => (hg.block k (Array.getElem?_eq_some_iff.1 hk).1 (fun c => ?_)).trans hk, fun _ k es cl hk => (hg.block k (Array.getElem?_eq_some_iff.1 hk).1 (fun c => ?_)).trans hk⟩
    · simp only [Value.ownBlock, Option.some.injEq] at c
      subst c
      have := hb.symm.trans hk; simp only [Option.some.injEq, Obj.cells.injEq] at this
      rw [this.2.1] at hT; simp at hT
    · simp only [Value.ownBlock, Option.some.injEq] at c
      subst c
      have := hb.symm.trans hk; cases this
theorem grown_below {w0 w w' : World} {B : Nat} {base e size n : Nat} {v : Value} {xs : List Value} (h : w.ownsRow base e size v n xs) (hg : w.grownBy w' v.ownBlock) (hB : Below B w0 w) (hs : B ≤ w.heap.size) (hb : B ≤ base) : Below B w0 w' :=
  hB.grown hg hs fun k hk => by
    obtain ⟨-, ⟨rfl, -⟩ | ⟨g, cap, cur, rfl, hb2, -⟩⟩ := h
    · simp [Value.ownBlock] at hk
    · simp only [Value.ownBlock, Option.some.injEq] at hk; omega
theorem set_ty {w : World} {q T : Nat} {cs : Array Value} (h : w.heap[q]? = some (.cells cs T (0, 0))) (o : Nat) (v : Value) : Fr (fun X => X == T) false w (w.setCell ⟨q, o, none⟩ v) :=
  keeps_fr (setCell_keeps w q o v) _ _ fun k e => ⟨_, _, _, e ▸ h, by simp⟩
theorem set_below {w0 w : World} {B q : Nat} (hB : Below B w0 w) (hs : B ≤ w.heap.size) (hq : B ≤ q) (o : Nat) (v : Value) : Below B w0 (w.setCell ⟨q, o, none⟩ v) :=
  keeps_below (setCell_keeps w q o v) hB hs fun k e => e ▸ hq
theorem ty_or {K1 K2 : TypeId → Bool} {w w' w'' : World} (h1 : Fr K1 false w w') (h2 : Fr K2 false w' w'') : Fr (fun T => K1 T || K2 T) false w w'' :=
  (h1.mono (fun T h => by simp only [Bool.or_eq_false_iff] at h; exact h.1) id).trans (h2.mono (fun T h => by simp only [Bool.or_eq_false_iff] at h; exact h.2) id)
end Go.Proofs.Ytjfocckdbaaimaa
