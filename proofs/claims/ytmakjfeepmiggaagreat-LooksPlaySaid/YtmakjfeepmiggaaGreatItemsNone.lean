/-
  The walk of ItemsNone.
-/
import Derived.Test.YtmakjfeepmiggaaGreatItemsVoid
namespace Go.Proofs.YtmakjfeepmiggaaGreat
open Go.RowKit
set_option linter.unusedVariables false

abbrev zItm : Itm := ⟨⟨#[]⟩, ⟨#[]⟩, 0, 0, 0, 0⟩

theorem Itms.cell {w : World} {a : Option Addr} {cap : Nat} {l : List Itm} (h : Itms w (.slice a l.length cap) l) (i : Nat) (hi : i < l.length) :
    ∃ b off x, a = some ⟨b, off, none⟩ ∧ l[i]? = some x ∧ w.cell? ⟨b, off + i * 6, none⟩ = some (.string x.key) ∧ w.cell? ⟨b, off + i * 6 + 1, none⟩ = some (.string x.val) ∧ w.cell? ⟨b, off + i * 6 + 2, none⟩ = some (.int .u32 x.flags) ∧
    w.cell? ⟨b, off + i * 6 + 3, none⟩ = some (.int .u64 x.id) ∧ w.cell? ⟨b, off + i * 6 + 4, none⟩ = some (.int .i64 x.dies) ∧ w.cell? ⟨b, off + i * 6 + 5, none⟩ = some (.int .i64 x.gen) := by
  obtain ⟨a', cap', hv, h1, h2, h3, h4⟩ := h
  simp only [Value.slice.injEq, true_and] at hv
  obtain ⟨rfl, rfl⟩ := hv
  rcases h4 with rfl | ⟨b, off, rfl, h5⟩
  · simp at hi
  · have h6 := h5 i hi
    refine ⟨b, off, l[i], rfl, List.getElem?_eq_getElem hi, h6 0 (by omega), ?_, ?_, ?_, ?_, ?_⟩
    · rw [Nat.add_assoc]; exact h6 1 (by omega)
    · rw [Nat.add_assoc]; exact h6 2 (by omega)
    · rw [Nat.add_assoc]; exact h6 3 (by omega)
    · rw [Nat.add_assoc]; exact h6 4 (by omega)
    · rw [Nat.add_assoc]; exact h6 5 (by omega)
theorem Itms.slice {w : World} {v : Value} {l : List Itm} (h : Itms w v l) : ∃ a cap, v = .slice a l.length cap ∧ l.length ≤ cap ∧ cap ≤ maxLen := by
  obtain ⟨a, cap, rfl, h1, h2, h3, h4⟩ := h
  exact ⟨a, cap, rfl, h1, h2⟩

end Go.Proofs.YtmakjfeepmiggaaGreat
