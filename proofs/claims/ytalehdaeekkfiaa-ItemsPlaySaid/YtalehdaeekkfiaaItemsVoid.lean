/-
  The walk of ItemsVoid.
-/
import Derived.Test.YtalehdaeekkfiaaItemsLaw
import Derived.Test.YtalehdaeekkfiaaItemsOpen
namespace Go.Proofs.Ytalehdaeekkfiaa
open Go.RowKit
set_option linter.unusedVariables false

theorem add_nil_lit (x : Itm) (w : World) : Calls Try.prog 15 #[.pointer none, .agg #[.string (x).key, .string (x).val, .int .u32 (x).flags, .int .u64 (x).id, .int .i64 (x).dies, .int .i64 (x).gen]] w fun e w' => e = .returned (.tuple #[.int .i64 0, .int .i64 2]) ∧ Below w.heap.size w w' := add_nil x w
theorem at_nil_lit (r : Int) (w : World) :
    Calls Try.prog 19 #[.pointer none, .int .i64 r] w fun e w' => e = .returned (.tuple #[.agg #[.string ⟨#[]⟩, .string ⟨#[]⟩, .int .u32 0, .int .u64 0, .int .i64 0, .int .i64 0], .bool false]) ∧ Below w.heap.size w w' := at_nil r w
theorem at_out_lit (base b : Nat) (l : List Itm) (S : Nat → Prop) (r : Int) (w : World) (h : Arena w base b l S) (hl : l.length ≤ 1048576) (hr : ¬ (1 ≤ r ∧ r ≤ l.length)) :
    Calls Try.prog 19 #[.pointer (some ⟨b, 0, none⟩), .int .i64 r] w fun e w' => e = .returned (.tuple #[.agg #[.string ⟨#[]⟩, .string ⟨#[]⟩, .int .u32 0, .int .u64 0, .int .i64 0, .int .i64 0], .bool false]) ∧ Below w.heap.size w w' := by
  have := at_any base b l S r w h hl
  unfold atOf at this
  rw [if_neg hr] at this
  exact this
theorem at_in_lit (base b : Nat) (l : List Itm) (S : Nat → Prop) (r : Nat) (x : Itm) (w : World) (h : Arena w base b l S) (hl : l.length ≤ 1048576) (h1 : 1 ≤ r) (h2 : l[r - 1]? = some x) :
    Calls Try.prog 19 #[.pointer (some ⟨b, 0, none⟩), .int .i64 r] w fun e w' => e = .returned (.tuple #[.agg #[.string (x).key, .string (x).val, .int .u32 (x).flags, .int .u64 (x).id, .int .i64 (x).dies, .int .i64 (x).gen], .bool true]) ∧ Below w.heap.size w w' := by
  obtain ⟨h3, h4⟩ := List.getElem?_eq_some_iff.1 h2
  have := at_in base b l S r w h hl h1 (by omega)
  rw [List.getD_eq_getElem?_getD, h2] at this
  exact this

/-- A variable of type Arena that nobody has filled. -/
theorem void_arena (base : Nat) (w : World) (hb : base ≤ w.heap.size) : Arena (w.alloc (.cells #[.slice none 0 0, .int .i64 0] 43)) base w.heap.size [] (arenaFp w.heap.size none []) :=
  ⟨none, 0, [], ⟨by simpa using heap_alloc_new w _, World.ownsRow_nil _ _ _ _, hb, by simp, by simp, by simp, by simp, by simp, by simp, by simp [Value.ownBlock], by simp⟩, rfl⟩

/-- A block that holds a record. -/
def Box (w : World) (k : Nat) (x : Itm) : Prop := w.heap[k]? = some (.cells x.cells.toArray 36 (0, 0))
theorem Box.new (w : World) (x : Itm) : Box (w.alloc (.cells x.cells.toArray 36)) w.heap.size x := heap_alloc_new w _
theorem Box.lt {w : World} {k : Nat} {x : Itm} (h : Box w k x) : k < w.heap.size := (Array.getElem?_eq_some_iff.1 h).1
theorem Box.below {w w' : World} {k : Nat} {x : Itm} (h : Box w k x) (hb : Below w.heap.size w w') : Box w' k x := (hb.block k h.lt).trans h
theorem Box.alloc {w : World} {k : Nat} {x : Itm} (h : Box w k x) (o : Obj) : Box (w.alloc o) k x := h.below ((Below.refl _ _).alloc (Nat.le_refl _) _)
theorem Box.keeps {S : Nat → Prop} {w w' : World} {k : Nat} {x : Itm} (h : Box w k x) (hb : Keeps S w w') (hs : ¬ S k) : Box w' k x := (hb.block k h.lt hs).trans h
theorem Box.cells {w : World} {k : Nat} {x : Itm} (h : Box w k x) :
    w.cell? ⟨k, 0, none⟩ = some (.string x.key) ∧ w.cell? ⟨k, 1, none⟩ = some (.string x.val) ∧ w.cell? ⟨k, 2, none⟩ = some (.int .u32 x.flags) ∧
    w.cell? ⟨k, 3, none⟩ = some (.int .u64 x.id) ∧ w.cell? ⟨k, 4, none⟩ = some (.int .i64 x.dies) ∧ w.cell? ⟨k, 5, none⟩ = some (.int .i64 x.gen) := by
  unfold Box at h
  refine ⟨?_, ?_, ?_, ?_, ?_, ?_⟩ <;> simp [World.cell?, h, Itm.cells]
theorem Box.frozen {w : World} {k : Nat} {x : Itm} (h : Box w k x) (f : Nat) : w.frozen? ⟨k, f, none⟩ = false := by
  unfold Box at h
  simp [World.frozen?, h]
theorem Box.store {w : World} {k : Nat} {x : Itm} (h : Box w k x) (y : Itm) : Box (store6 w k 0 y) k y := by
  have := store6_same h 0 y
  exact this

set_option maxRecDepth 10000 in
set_option maxHeartbeats 1600000 in
theorem walkItemsVoid {H : Type} (w : World) (enc : TypeId × Value → H) (base : Nat) (v : Value) (d : DataW H) (p : List MemPlace) (k : DataW.Trod enc Try.prog w 0 (fun _ => true) true 36 v d p) (o : Value.okWide Try.prog w .any base 36 v)
    (ref : Int) (hr : (Lit.int .i64 ref).wf = true) :
    Calls Try.prog 4 #[v, .int .i64 ref] w fun e w' => e = .returned (.bool true) ∧ Below w.heap.size w w' := by
  obtain ⟨cs, rfl, hs⟩ := Go.WideShapes.okWide_struct Try.underlying36 o
  obtain ⟨x, hx⟩ := itm_of (opened leaves_item k)
  obtain rfl : cs = x.cells.toArray := by
    have : cs.toList = x.cells := hx
    rw [← this]
  clear k o hx hs
  show Calls Try.prog _ #[.agg #[.string (x).key, .string (x).val, .int .u32 (x).flags, .int .u64 (x).id, .int .i64 (x).dies, .int .i64 (x).gen], .int .i64 ref] w _
  have b0 := Box.new w x
  have B0 : Below w.heap.size w (w.alloc (.cells x.cells.toArray 36)) := (Below.refl _ _).alloc (Nat.le_refl _) _
  go_enter Try.func4, Try.ntmps4
  go_wp2_with fail
  refine (add_nil_lit x _).mono ?_
  rintro e w1 ⟨rfl, h1⟩
  replace B0 := B0.trans (h1.mono B0.size)
  replace b0 := b0.below h1
  clear h1
  go_wp2_with fail
  refine (at_nil_lit ref _).mono ?_
  rintro e w2 ⟨rfl, h1⟩
  replace B0 := B0.trans (h1.mono B0.size)
  replace b0 := b0.below h1
  clear h1
  go_wp2_with (first
    | (go_at_call 17; refine (count_nil _).mono ?_; rintro e W' ⟨rfl, rfl⟩)
    | fail)
  have bB := (Box.new w2 ⟨⟨#[]⟩, ⟨#[]⟩, 0, 0, 0, 0⟩).alloc (.cells #[.slice none 0 0, .int .i64 0] 43)
  have hV := void_arena w.heap.size (w2.alloc (.cells (Itm.cells ⟨⟨#[]⟩, ⟨#[]⟩, 0, 0, 0, 0⟩).toArray 36)) (by simp; have := B0.size; omega)
  have hsz : w2.heap.size + 1 = (w2.alloc (.cells (Itm.cells ⟨⟨#[]⟩, ⟨#[]⟩, 0, 0, 0, 0⟩).toArray 36)).heap.size := by simp
  rw [← hsz] at hV
  have b1 := (b0.alloc (.cells (Itm.cells ⟨⟨#[]⟩, ⟨#[]⟩, 0, 0, 0, 0⟩).toArray 36)).alloc (.cells #[.slice none 0 0, .int .i64 0] 43)
  have B1 := (B0.alloc B0.size (.cells (Itm.cells ⟨⟨#[]⟩, ⟨#[]⟩, 0, 0, 0, 0⟩).toArray 36)).alloc (by simp; have := B0.size; omega) (.cells #[.slice none 0 0, .int .i64 0] 43)
  have hAB : w.heap.size < w2.heap.size := b0.lt
  refine (at_out_lit w.heap.size _ [] _ ref _ hV (by simp) (by simp; omega)).mono ?_
  rintro e w3 ⟨rfl, h1⟩
  replace b1 := b1.below h1
  replace bB := bB.below h1
  replace hV := hV.below h1
  replace B1 := B1.trans (h1.mono B1.size)
  clear h1 b0 B0 hsz
  have hAB' : w.heap.size ≠ w2.heap.size := by omega
  generalize w2.heap.size = B at *
  obtain ⟨p0, p1, p2, p3, p4, p5⟩ := bB.cells
  have hf := bB.frozen
  have hst := store6_keeps w3 B 0 ⟨⟨#[]⟩, ⟨#[]⟩, 0, 0, 0, 0⟩
  replace bB := bB.store ⟨⟨#[]⟩, ⟨#[]⟩, 0, 0, 0, 0⟩
  replace b1 := b1.keeps hst hAB'
  replace hV := hV.keeps hst (fun k hk hkB => by rcases hk with h | ⟨a, h, _⟩ | h; omega; cases h; cases h)
  replace B1 := keeps_below hst B1 B1.size (fun k hk => by omega)
  go_wp2_with fail
  change Calls Try.prog 17 _ (store6 w3 B 0 ⟨⟨#[]⟩, ⟨#[]⟩, 0, 0, 0, 0⟩) _
  generalize store6 w3 B 0 ⟨⟨#[]⟩, ⟨#[]⟩, 0, 0, 0, 0⟩ = w4 at *
  clear p0 p1 p2 p3 p4 p5 hf hst
  refine (count_arena _ _ _ _ _ hV).mono ?_
  rintro e w' ⟨rfl, rfl⟩
  obtain ⟨q0, q1, q2, q3, q4, q5⟩ := b1.cells
  go_wp2_with fail
  refine (add_lit x _ _ _ _ _ hV B1.size (by simp)).mono ?_
  rintro e w5 ⟨rfl, S2, hA, hK, hS2⟩
  replace b1 := b1.keeps hK (fun h => by rcases h with h | ⟨a, h, _⟩ | h; omega; cases h; cases h)
  replace B1 := keeps_below hK B1 B1.size (fun k hk => by rcases hk with h | ⟨a, h, _⟩ | h; omega; cases h; cases h)
  clear q0 q1 q2 q3 q4 q5
  go_wp2_with fail
  refine (at_in_lit w.heap.size _ _ _ 1 x _ hA (by simp) (by omega) rfl).mono ?_
  rintro e w6 ⟨rfl, h1⟩
  replace b1 := b1.below h1
  replace hA := hA.below h1
  replace B1 := B1.trans (h1.mono B1.size)
  clear h1
  have b2 := b1.alloc (.cells x.cells.toArray 36)
  obtain ⟨q0, q1, q2, q3, q4, q5⟩ := b1.cells
  have hbl := b1.lt
  go_wp2_with (first
    | (go_at_call 17; refine (count_arena _ _ _ _ _ (hA.below ((Below.refl _ _).alloc (Nat.le_refl _) _))).mono ?_; rintro e W' ⟨rfl, rfl⟩)
    | (go_at_call 13; refine (lives06 _).mono ?_; rintro e W' ⟨rfl, hb⟩))
  go_ret
  exact ⟨rfl, (B1.alloc B1.size _).trans (hb.mono (by have := B1.size; simp; omega))⟩
end Go.Proofs.Ytalehdaeekkfiaa
