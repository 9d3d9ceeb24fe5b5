/-
  Arguments that are records, and lists of records or numbers.
-/
import Derived.Test.YtmakjfeepmiggaaGreatOpen
import Derived.Test.YtmakjfeepmiggaaGreatItems
namespace Go.Proofs.YtmakjfeepmiggaaGreat
open Go.RowKit
set_option linter.unusedVariables false

def itmLeaves : List Leaf := [.str, .str, .int .u32, .int .u64, .int .i64, .int .i64]
theorem itm_of {w : World} {cs : List Value} (h : Leaf.allHold w itmLeaves cs) : ∃ x : Itm, cs = x.cells := by
  obtain ⟨c0, r, rfl, g0, h⟩ := allHold_cons h
  obtain ⟨c1, r, rfl, g1, h⟩ := allHold_cons h
  obtain ⟨c2, r, rfl, g2, h⟩ := allHold_cons h
  obtain ⟨c3, r, rfl, g3, h⟩ := allHold_cons h
  obtain ⟨c4, r, rfl, g4, h⟩ := allHold_cons h
  obtain ⟨c5, r, rfl, g5, h⟩ := allHold_cons h
  obtain rfl := allHold_nil h
  obtain ⟨s0, rfl, _⟩ := holds_str g0
  obtain ⟨s1, rfl, _⟩ := holds_str g1
  obtain ⟨n2, rfl, _⟩ := holds_int g2
  obtain ⟨n3, rfl, _⟩ := holds_int g3
  obtain ⟨n4, rfl, _⟩ := holds_int g4
  obtain ⟨n5, rfl, _⟩ := holds_int g5
  exact ⟨⟨s0, s1, n2, n3, n4, n5⟩, rfl⟩

/-- A list of records that may be read. -/
def Itms (w : World) (v : Value) (l : List Itm) : Prop :=
  ∃ a cap, v = .slice a l.length cap ∧ l.length ≤ cap ∧ cap ≤ maxLen ∧ (a = none → cap = 0) ∧
    (l = [] ∨ ∃ b off, a = some ⟨b, off, none⟩ ∧ ∀ i, (hi : i < l.length) → ∀ f, f < 6 → w.cell? ⟨b, off + (i * 6 + f), none⟩ = (l[i]).cells[f]?)
/-- A list of numbers that may be read. -/
def Ints (k : IntKind) (w : World) (v : Value) (l : List Int) : Prop :=
  ∃ a cap, v = .slice a l.length cap ∧ l.length ≤ cap ∧ cap ≤ maxLen ∧ (a = none → cap = 0) ∧ (∀ n ∈ l, (Lit.int k n).wf = true) ∧
    (l = [] ∨ ∃ b off, a = some ⟨b, off, none⟩ ∧ ∀ i, (hi : i < l.length) → w.cell? ⟨b, off + i, none⟩ = some (.int k (l[i])))

theorem itms_of {w : World} {v : Value} (h : Leaf.holds w (.sl itmLeaves) v) : ∃ l, Itms w v l := by
  simp only [Leaf.holds] at h
  obtain ⟨a, len, cap, rfl, h1, h2, h3, h4⟩ := h
  rcases h4 with rfl | ⟨b, off, rfl, h5⟩
  · exact ⟨[], a, cap, rfl, h1, h2, h3, .inl rfl⟩
  · obtain ⟨l, hl, hp⟩ := list_of (fun i (x : Itm) => ∀ f, f < 6 → w.cell? ⟨b, off + (i * 6 + f), none⟩ = x.cells[f]?) len (fun i hi => by
      obtain ⟨cs, c1, c2, c3⟩ := h5 i hi
      obtain ⟨x, rfl⟩ := itm_of c3
      exact ⟨x, fun f hf => c2 f (by simpa [Itm.cells] using hf)⟩)
    subst hl
    exact ⟨l, _, cap, rfl, h1, h2, h3, .inr ⟨b, off, rfl, hp⟩⟩
theorem ints_of {k : IntKind} {w : World} {v : Value} (h : Leaf.holds w (.sl [.int k]) v) : ∃ l, Ints k w v l := by
  simp only [Leaf.holds] at h
  obtain ⟨a, len, cap, rfl, h1, h2, h3, h4⟩ := h
  rcases h4 with rfl | ⟨b, off, rfl, h5⟩
  · exact ⟨[], a, cap, rfl, h1, h2, h3, by simp, .inl rfl⟩
  · obtain ⟨l, hl, hp⟩ := list_of (fun i (x : Int) => w.cell? ⟨b, off + i, none⟩ = some (.int k x) ∧ (Lit.int k x).wf = true) len (fun i hi => by
      obtain ⟨cs, c1, c2, c3⟩ := h5 i hi
      match cs, c1, c2, c3 with
      | [c], c1, c2, c3 =>
        simp only [Leaf.allHold, Leaf.holds, and_true] at c3
        obtain ⟨n, rfl, hn⟩ := c3
        exact ⟨n, by simpa [Leaf.many] using c2 0 (by simp), hn⟩)
    subst hl
    refine ⟨l, _, cap, rfl, h1, h2, h3, fun n hn => ?_, .inr ⟨b, off, rfl, fun i hi => (hp i hi).1⟩⟩
    obtain ⟨i, hi, rfl⟩ := List.mem_iff_getElem.1 hn
    exact (hp i hi).2
theorem Itms.below {w w' : World} {B : Nat} {v : Value} {l : List Itm} (h : Itms w v l) (hb : Below B w w') (hB : w.heap.size ≤ B) : Itms w' v l := by
  obtain ⟨a, cap, rfl, h1, h2, h3, h4⟩ := h
  refine ⟨a, cap, rfl, h1, h2, h3, h4.imp id ?_⟩
  rintro ⟨b, off, rfl, h5⟩
  refine ⟨b, off, rfl, fun i hi f hf => ?_⟩
  have h6 := h5 i hi f hf
  have h7 : f < (l[i]).cells.length := by simpa [Itm.cells] using hf
  rw [List.getElem?_eq_getElem h7] at h6 ⊢
  exact (hb.cell (Nat.lt_of_lt_of_le (World.block_lt_of_cell? _ _ h6) hB)).trans h6
theorem Ints.below {k : IntKind} {w w' : World} {B : Nat} {v : Value} {l : List Int} (h : Ints k w v l) (hb : Below B w w') (hB : w.heap.size ≤ B) : Ints k w' v l := by
  obtain ⟨a, cap, rfl, h1, h2, h3, hw, h4⟩ := h
  refine ⟨a, cap, rfl, h1, h2, h3, hw, h4.imp id ?_⟩
  rintro ⟨b, off, rfl, h5⟩
  refine ⟨b, off, rfl, fun i hi => ?_⟩
  have h6 := h5 i hi
  exact (hb.cell (Nat.lt_of_lt_of_le (World.block_lt_of_cell? _ _ h6) hB)).trans h6

theorem leaves_item : leaves Tryz.prog 4 80 = some itmLeaves := by kernel_rfl
theorem leaves_items : leaves Tryz.prog 5 24 = some [.sl itmLeaves] := by kernel_rfl
theorem leaves_ints : leaves Tryz.prog 5 132 = some [.sl [.int .i64]] := by kernel_rfl
end Go.Proofs.YtmakjfeepmiggaaGreat
