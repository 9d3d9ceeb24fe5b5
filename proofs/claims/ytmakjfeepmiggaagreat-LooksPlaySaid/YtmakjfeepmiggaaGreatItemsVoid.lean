/-
  The walk of ItemsVoid.
-/
import Derived.Test.YtmakjfeepmiggaaGreatItemsLaw
import Derived.Test.YtmakjfeepmiggaaGreatItemsOpen
namespace Go.Proofs.YtmakjfeepmiggaaGreat
open Go.RowKit
set_option linter.unusedVariables false

theorem add_nil_lit (x : Itm) (w : World) : Calls Tryz.prog 79 #[.pointer none, .agg #[.string (x).key, .string (x).val, .int .u32 (x).flags, .int .u64 (x).id, .int .i64 (x).dies, .int .i64 (x).gen]] w fun e w' => e = .returned (.tuple #[.int .i64 0, .int .i64 2]) ∧ Below w.heap.size w w' := add_nil x w
theorem at_nil_lit (r : Int) (w : World) :
    Calls Tryz.prog 75 #[.pointer none, .int .i64 r] w fun e w' => e = .returned (.tuple #[.agg #[.string ⟨#[]⟩, .string ⟨#[]⟩, .int .u32 0, .int .u64 0, .int .i64 0, .int .i64 0], .bool false]) ∧ Below w.heap.size w w' := at_nil r w
theorem at_out_lit (base b : Nat) (l : List Itm) (S : Nat → Prop) (r : Int) (w : World) (h : Arena w base b l S) (hl : l.length ≤ 1048576) (hr : ¬ (1 ≤ r ∧ r ≤ l.length)) :
    Calls Tryz.prog 75 #[.pointer (some ⟨b, 0, none⟩), .int .i64 r] w fun e w' => e = .returned (.tuple #[.agg #[.string ⟨#[]⟩, .string ⟨#[]⟩, .int .u32 0, .int .u64 0, .int .i64 0, .int .i64 0], .bool false]) ∧ Below w.heap.size w w' := by
  have := iat_any base b l S r w h hl
  unfold atOf at this
  rw [if_neg hr] at this
  exact this
theorem at_in_lit (base b : Nat) (l : List Itm) (S : Nat → Prop) (r : Nat) (x : Itm) (w : World) (h : Arena w base b l S) (hl : l.length ≤ 1048576) (h1 : 1 ≤ r) (h2 : l[r - 1]? = some x) :
    Calls Tryz.prog 75 #[.pointer (some ⟨b, 0, none⟩), .int .i64 r] w fun e w' => e = .returned (.tuple #[.agg #[.string (x).key, .string (x).val, .int .u32 (x).flags, .int .u64 (x).id, .int .i64 (x).dies, .int .i64 (x).gen], .bool true]) ∧ Below w.heap.size w w' := by
  obtain ⟨h3, h4⟩ := List.getElem?_eq_some_iff.1 h2
  have := at_in base b l S r w h hl h1 (by omega)
  rw [List.getD_eq_getElem?_getD, h2] at this
  exact this

/-- A variable of type Arena that nobody has filled. -/
theorem void_arena (base : Nat) (w : World) (hb : base ≤ w.heap.size) : Arena (w.alloc (.cells #[.slice none 0 0, .int .i64 0] 242)) base w.heap.size [] (arenaFp w.heap.size none []) :=
  ⟨none, 0, [], ⟨by simpa using heap_alloc_new w _, World.ownsRow_nil _ _ _ _, hb, by simp, by simp, by simp, by simp, by simp, by simp, by simp [Value.ownBlock], by simp⟩, rfl⟩

/-- A block that holds a record. -/
def Box (w : World) (k : Nat) (x : Itm) : Prop := w.heap[k]? = some (.cells x.cells.toArray 80 (0, 0))
theorem Box.new (w : World) (x : Itm) : Box (w.alloc (.cells x.cells.toArray 80)) w.heap.size x := heap_alloc_new w _
theorem Box.lt {w : World} {k : Nat} {x : Itm} (h : Box w k x) : k < w.heap.size := (Array.getElem?_eq_some_iff.1 h).1
theorem Box.below {w w' : World} {k : Nat} {x : Itm} (h : Box w k x) (hb : Below w.heap.size w w') : Box w' k x := (hb.block k h.lt).trans h
theorem Box.alloc {w : World} {k : Nat} {x : Itm} (h : Box w k x) (o : Obj) : Box (w.alloc o) k x := h.below ((Below.refl _ _).alloc (Nat.le_refl _) _)
theorem Box.keeps {S : Nat → Prop} {w w' : World} {k : Nat} {x : Itm} (h : Box w k x) (hb : Keeps S w w') (hs : ¬ S k) : Box w' k x := (hb.block k h.lt hs).trans h
theorem Box.cells {w : World} {k : Nat} {x : Itm} (h : Box w k x) :
    w.cell? ⟨k, 0, none⟩ = some (.string x.key) ∧ w.cell? ⟨k, 1, none⟩ = some (.string x.val) ∧ w.cell? ⟨k, 2, none⟩ = some (.int .u32 x.flags) ∧
    w.cell? ⟨k, 3, none⟩ = some (.int .u64 x.id) ∧ w.cell? ⟨k, 4, none⟩ = some (.int .i64 x.dies) ∧ w.cell? ⟨k, 5, none⟩ = some (.int .i64 x.gen) := by
  unfold Box at h
  refine ⟨?_, ?_, ?_, ?_, ?_, ?_⟩ <;> simp [World.cell?, h, Itm.cells]
theorem Box.frozen {w : World} {k : Nat} {x : Itm} (h : Box w k x) (f : Nat) : w.frozen? ⟨k, f, none⟩ = false := by
  unfold Box at h
  simp [World.frozen?, h]
theorem Box.store {w : World} {k : Nat} {x : Itm} (h : Box w k x) (y : Itm) : Box (store6 w k 0 y) k y := by
  have := store6_same h 0 y
  exact this

end Go.Proofs.YtmakjfeepmiggaaGreat
