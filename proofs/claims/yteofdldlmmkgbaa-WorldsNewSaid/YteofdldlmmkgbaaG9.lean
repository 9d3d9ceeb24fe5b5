/-
  Texts of this prover, merged: ItemsOpen, ItemsVoid, ItemsNone, ItemsRef, ItemsRefAt, RefNew.
-/
import Derived.Test.YteofdldlmmkgbaaG8
import Derived.Test.YteofdldlmmkgbaaG5
import Derived.Test.YteofdldlmmkgbaaG3
import Derived.Deep.RegionHeld3
import Derived.Deep.RegionLaw
import Derived.Deep.AppendLies
import Derived.Deep.DrawnRows
/-
  Arguments that are records, and lists of records or numbers.
-/
namespace Go.Proofs.Yteofdldlmmkgbaa
open Go.RowKit
set_option linter.unusedVariables false

def itmLeaves : List Leaf := [.str, .str, .int .u32, .int .u64, .int .i64, .int .i64]
theorem itm_of {w : World} {cs : List Value} (h : Leaf.allHold w itmLeaves cs) : ∃ x : Itm, cs = x.cells := by
  obtain ⟨c0, r, rfl, g0, h⟩ := allHold_cons h
  obtain ⟨c1, r, rfl, g1, h⟩ := allHold_cons h
  obtain ⟨c2, r, rfl, g2, h⟩ := allHold_cons h
  obtain ⟨c3, r, rfl, g3, h⟩ := allHold_cons h
  obtain ⟨c4, r, rfl, g4, h⟩ := allHold_cons h
  obtain ⟨c5, r, rfl, g5, h⟩ := allHold_cons h
  obtain rfl := allHold_nil h
  obtain ⟨s0, rfl, _⟩ := holds_str g0
  obtain ⟨s1, rfl, _⟩ := holds_str g1
  obtain ⟨n2, rfl, _⟩ := holds_int g2
  obtain ⟨n3, rfl, _⟩ := holds_int g3
  obtain ⟨n4, rfl, _⟩ := holds_int g4
  obtain ⟨n5, rfl, _⟩ := holds_int g5
  exact ⟨⟨s0, s1, n2, n3, n4, n5⟩, rfl⟩

/-- A list of records that may be read. -/
def Itms (w : World) (v : Value) (l : List Itm) : Prop :=
  ∃ a cap, v = .slice a l.length cap ∧ l.length ≤ cap ∧ cap ≤ maxLen ∧ (a = none → cap = 0) ∧
    (l = [] ∨ ∃ b off, a = some ⟨b, off, none⟩ ∧ ∀ i, (hi : i < l.length) → ∀ f, f < 6 → w.cell? ⟨b, off + (i * 6 + f), none⟩ = (l[i]).cells[f]?)
/-- A list of numbers that may be read. -/
def Ints (k : IntKind) (w : World) (v : Value) (l : List Int) : Prop :=
  ∃ a cap, v = .slice a l.length cap ∧ l.length ≤ cap ∧ cap ≤ maxLen ∧ (a = none → cap = 0) ∧ (∀ n ∈ l, (Lit.int k n).wf = true) ∧
    (l = [] ∨ ∃ b off, a = some ⟨b, off, none⟩ ∧ ∀ i, (hi : i < l.length) → w.cell? ⟨b, off + i, none⟩ = some (.int k (l[i])))

theorem itms_of {w : World} {v : Value} (h : Leaf.holds w (.sl itmLeaves) v) : ∃ l, Itms w v l := by
  simp only [Leaf.holds] at h
  obtain ⟨a, len, cap, rfl, h1, h2, h3, h4⟩ := h
  rcases h4 with rfl | ⟨b, off, rfl, h5⟩
  · exact ⟨[], a, cap, rfl, h1, h2, h3, .inl rfl⟩
  · obtain ⟨l, hl, hp⟩ := list_of (fun i (x : Itm) => ∀ f, f < 6 → w.cell? ⟨b, off + (i * 6 + f), none⟩ = x.cells[f]?) len (fun i hi => by
      obtain ⟨cs, c1, c2, c3⟩ := h5 i hi
      obtain ⟨x, rfl⟩ := itm_of c3
      exact ⟨x, fun f hf => c2 f (by simpa [Itm.cells] using hf)⟩)
    subst hl
    exact ⟨l, _, cap, rfl, h1, h2, h3, .inr ⟨b, off, rfl, hp⟩⟩
theorem ints_of {k : IntKind} {w : World} {v : Value} (h : Leaf.holds w (.sl [.int k]) v) : ∃ l, Ints k w v l := by
  simp only [Leaf.holds] at h
  obtain ⟨a, len, cap, rfl, h1, h2, h3, h4⟩ := h
  rcases h4 with rfl | ⟨b, off, rfl, h5⟩
  · exact ⟨[], a, cap, rfl, h1, h2, h3, by simp, .inl rfl⟩
  · obtain ⟨l, hl, hp⟩ := list_of (fun i (x : Int) => w.cell? ⟨b, off + i, none⟩ = some (.int k x) ∧ (Lit.int k x).wf = true) len (fun i hi => by
      obtain ⟨cs, c1, c2, c3⟩ := h5 i hi
      match cs, c1, c2, c3 with
      | [c], c1, c2, c3 =>
        simp only [Leaf.allHold, Leaf.holds, and_true] at c3
        obtain ⟨n, rfl, hn⟩ := c3
        exact ⟨n, by simpa [Leaf.many] using c2 0 (by simp), hn⟩)
    subst hl
    refine ⟨l, _, cap, rfl, h1, h2, h3, fun n hn => ?_, .inr ⟨b, off, rfl, fun i hi => (hp i hi).1⟩⟩
    obtain ⟨i, hi, rfl⟩ := List.mem_iff_getElem.1 hn
    exact (hp i hi).2
theorem Itms.below {w w' : World} {B : Nat} {v : Value} {l : List Itm} (h : Itms w v l) (hb : Below B w w') (hB : w.heap.size ≤ B) : Itms w' v l := by
  obtain ⟨a, cap, rfl, h1, h2, h3, h4⟩ := h
  refine ⟨a, cap, rfl, h1, h2, h3, h4.imp id ?_⟩
  rintro ⟨b, off, rfl, h5⟩
  refine ⟨b, off, rfl, fun i hi f hf => ?_⟩
  have h6 := h5 i hi f hf
  have h7 : f < (l[i]).cells.length := by simpa [Itm.cells] using hf
  rw [List.getElem?_eq_getElem h7] at h6 ⊢
  exact (hb.cell (Nat.lt_of_lt_of_le (World.block_lt_of_cell? _ _ h6) hB)).trans h6
theorem Ints.below {k : IntKind} {w w' : World} {B : Nat} {v : Value} {l : List Int} (h : Ints k w v l) (hb : Below B w w') (hB : w.heap.size ≤ B) : Ints k w' v l := by
  obtain ⟨a, cap, rfl, h1, h2, h3, hw, h4⟩ := h
  refine ⟨a, cap, rfl, h1, h2, h3, hw, h4.imp id ?_⟩
  rintro ⟨b, off, rfl, h5⟩
  refine ⟨b, off, rfl, fun i hi => ?_⟩
  have h6 := h5 i hi
  exact (hb.cell (Nat.lt_of_lt_of_le (World.block_lt_of_cell? _ _ h6) hB)).trans h6

theorem leaves_item : leaves Try.prog 4 61 = some itmLeaves := by kernel_rfl
theorem leaves_items : leaves Try.prog 5 45 = some [.sl itmLeaves] := by kernel_rfl
theorem leaves_ints : leaves Try.prog 5 92 = some [.sl [.int .i64]] := by kernel_rfl
end Go.Proofs.Yteofdldlmmkgbaa

/-
  The walk of ItemsVoid.
-/
namespace Go.Proofs.Yteofdldlmmkgbaa
open Go.RowKit
set_option linter.unusedVariables false

theorem add_nil_lit (x : Itm) (w : World) : Calls Try.prog 23 #[.pointer none, .agg #[.string (x).key, .string (x).val, .int .u32 (x).flags, .int .u64 (x).id, .int .i64 (x).dies, .int .i64 (x).gen]] w fun e w' => e = .returned (.tuple #[.int .i64 0, .int .i64 2]) ∧ Below w.heap.size w w' := add_nil x w
theorem at_nil_lit (r : Int) (w : World) :
    Calls Try.prog 24 #[.pointer none, .int .i64 r] w fun e w' => e = .returned (.tuple #[.agg #[.string ⟨#[]⟩, .string ⟨#[]⟩, .int .u32 0, .int .u64 0, .int .i64 0, .int .i64 0], .bool false]) ∧ Below w.heap.size w w' := at_nil r w
theorem at_out_lit (base b : Nat) (l : List Itm) (S : Nat → Prop) (r : Int) (w : World) (h : Arena w base b l S) (hl : l.length ≤ 1048576) (hr : ¬ (1 ≤ r ∧ r ≤ l.length)) :
    Calls Try.prog 24 #[.pointer (some ⟨b, 0, none⟩), .int .i64 r] w fun e w' => e = .returned (.tuple #[.agg #[.string ⟨#[]⟩, .string ⟨#[]⟩, .int .u32 0, .int .u64 0, .int .i64 0, .int .i64 0], .bool false]) ∧ Below w.heap.size w w' := by
  have := iat_any base b l S r w h hl
  unfold atOf at this
  rw [if_neg hr] at this
  exact this
theorem at_in_lit (base b : Nat) (l : List Itm) (S : Nat → Prop) (r : Nat) (x : Itm) (w : World) (h : Arena w base b l S) (hl : l.length ≤ 1048576) (h1 : 1 ≤ r) (h2 : l[r - 1]? = some x) :
    Calls Try.prog 24 #[.pointer (some ⟨b, 0, none⟩), .int .i64 r] w fun e w' => e = .returned (.tuple #[.agg #[.string (x).key, .string (x).val, .int .u32 (x).flags, .int .u64 (x).id, .int .i64 (x).dies, .int .i64 (x).gen], .bool true]) ∧ Below w.heap.size w w' := by
  obtain ⟨h3, h4⟩ := List.getElem?_eq_some_iff.1 h2
  have := at_in base b l S r w h hl h1 (by omega)
  rw [List.getD_eq_getElem?_getD, h2] at this
  exact this

/-- A variable of type Arena that nobody has filled. -/
theorem void_arena (base : Nat) (w : World) (hb : base ≤ w.heap.size) : Arena (w.alloc (.cells #[.slice none 0 0, .int .i64 0] 157)) base w.heap.size [] (arenaFp w.heap.size none []) :=
  ⟨none, 0, [], ⟨by simpa using heap_alloc_new w _, World.ownsRow_nil _ _ _ _, hb, by simp, by simp, by simp, by simp, by simp, by simp, by simp [Value.ownBlock], by simp⟩, rfl⟩

/-- A block that holds a record. -/
def Box (w : World) (k : Nat) (x : Itm) : Prop := w.heap[k]? = some (.cells x.cells.toArray 61 (0, 0))
theorem Box.new (w : World) (x : Itm) : Box (w.alloc (.cells x.cells.toArray 61)) w.heap.size x := heap_alloc_new w _
theorem Box.lt {w : World} {k : Nat} {x : Itm} (h : Box w k x) : k < w.heap.size := (Array.getElem?_eq_some_iff.1 h).1
theorem Box.below {w w' : World} {k : Nat} {x : Itm} (h : Box w k x) (hb : Below w.heap.size w w') : Box w' k x := (hb.block k h.lt).trans h
theorem Box.alloc {w : World} {k : Nat} {x : Itm} (h : Box w k x) (o : Obj) : Box (w.alloc o) k x := h.below ((Below.refl _ _).alloc (Nat.le_refl _) _)
theorem Box.keeps {S : Nat → Prop} {w w' : World} {k : Nat} {x : Itm} (h : Box w k x) (hb : Keeps S w w') (hs : ¬ S k) : Box w' k x := (hb.block k h.lt hs).trans h
theorem Box.cells {w : World} {k : Nat} {x : Itm} (h : Box w k x) :
    w.cell? ⟨k, 0, none⟩ = some (.string x.key) ∧ w.cell? ⟨k, 1, none⟩ = some (.string x.val) ∧ w.cell? ⟨k, 2, none⟩ = some (.int .u32 x.flags) ∧
    w.cell? ⟨k, 3, none⟩ = some (.int .u64 x.id) ∧ w.cell? ⟨k, 4, none⟩ = some (.int .i64 x.dies) ∧ w.cell? ⟨k, 5, none⟩ = some (.int .i64 x.gen) := by
  unfold Box at h
  refine ⟨?_, ?_, ?_, ?_, ?_, ?_⟩ <;> simp [World.cell?, h, Itm.cells]
theorem Box.frozen {w : World} {k : Nat} {x : Itm} (h : Box w k x) (f : Nat) : w.frozen? ⟨k, f, none⟩ = false := by
  unfold Box at h
  simp [World.frozen?, h]
theorem Box.store {w : World} {k : Nat} {x : Itm} (h : Box w k x) (y : Itm) : Box (store6 w k 0 y) k y := by
  have := store6_same h 0 y
  exact this

end Go.Proofs.Yteofdldlmmkgbaa

/-
  The walk of ItemsNone.
-/
namespace Go.Proofs.Yteofdldlmmkgbaa
open Go.RowKit
set_option linter.unusedVariables false

abbrev zItm : Itm := ⟨⟨#[]⟩, ⟨#[]⟩, 0, 0, 0, 0⟩

theorem Itms.cell {w : World} {a : Option Addr} {cap : Nat} {l : List Itm} (h : Itms w (.slice a l.length cap) l) (i : Nat) (hi : i < l.length) :
    ∃ b off x, a = some ⟨b, off, none⟩ ∧ l[i]? = some x ∧ w.cell? ⟨b, off + i * 6, none⟩ = some (.string x.key) ∧ w.cell? ⟨b, off + i * 6 + 1, none⟩ = some (.string x.val) ∧ w.cell? ⟨b, off + i * 6 + 2, none⟩ = some (.int .u32 x.flags) ∧
    w.cell? ⟨b, off + i * 6 + 3, none⟩ = some (.int .u64 x.id) ∧ w.cell? ⟨b, off + i * 6 + 4, none⟩ = some (.int .i64 x.dies) ∧ w.cell? ⟨b, off + i * 6 + 5, none⟩ = some (.int .i64 x.gen) := by
  obtain ⟨a', cap', hv, h1, h2, h3, h4⟩ := h
  simp only [Value.slice.injEq, true_and] at hv
  obtain ⟨rfl, rfl⟩ := hv
  rcases h4 with rfl | ⟨b, off, rfl, h5⟩
  · simp at hi
  · have h6 := h5 i hi
    refine ⟨b, off, l[i], rfl, List.getElem?_eq_getElem hi, h6 0 (by omega), ?_, ?_, ?_, ?_, ?_⟩
    · rw [Nat.add_assoc]; exact h6 1 (by omega)
    · rw [Nat.add_assoc]; exact h6 2 (by omega)
    · rw [Nat.add_assoc]; exact h6 3 (by omega)
    · rw [Nat.add_assoc]; exact h6 4 (by omega)
    · rw [Nat.add_assoc]; exact h6 5 (by omega)
theorem Itms.slice {w : World} {v : Value} {l : List Itm} (h : Itms w v l) : ∃ a cap, v = .slice a l.length cap ∧ l.length ≤ cap ∧ cap ≤ maxLen := by
  obtain ⟨a, cap, rfl, h1, h2, h3, h4⟩ := h
  exact ⟨a, cap, rfl, h1, h2⟩

end Go.Proofs.Yteofdldlmmkgbaa

/-
  The walks of nestboxref06.
-/
namespace Go.Proofs.Yteofdldlmmkgbaa
open Go.RowKit
set_option linter.unusedVariables false
attribute [local go_sem ↓] Go.wp_at_zero Go.wp_at_succ

theorem info_item : (Try.prog.info? 61).map (fun i => (i.zero, i.size, i.bytes)) = some (some (.agg #[.string ⟨#[]⟩, .string ⟨#[]⟩, .int .u32 0, .int .u64 0, .int .i64 0, .int .i64 0]), 6, 64) := by kernel_rfl

/-- What the reference's arena holds. -/
structure RArenaAt (w : World) (base b : Nat) (ao : Option Addr) (cap : Nat) (l : List Itm) : Prop where
  hdr : w.heap[b]? = some (.cells #[.slice ao l.length cap] 131 (0, 0))
  own : w.ownsRow base 61 6 (.slice ao l.length cap) l.length (l.flatMap Itm.cells)
  lo : base ≤ b
  no : (Value.slice ao l.length cap).ownBlock ≠ some b
def rarenaFp (b : Nat) (ao : Option Addr) (k : Nat) : Prop := k = b ∨ ∃ a, ao = some a ∧ a.block = k
def RArena (w : World) (base b : Nat) (l : List Itm) (S : Nat → Prop) : Prop := ∃ ao cap, RArenaAt w base b ao cap l ∧ S = rarenaFp b ao
theorem RArena.keep {w w' : World} {base b : Nat} {l : List Itm} {S : Nat → Prop} (h : RArena w base b l S) (hk : ∀ k, S k → w'.heap[k]? = w.heap[k]?) : RArena w' base b l S := by
  obtain ⟨ao, cap, h, rfl⟩ := h
  refine ⟨ao, cap, ⟨by rw [hk b (.inl rfl)]; exact h.hdr, ⟨h.own.1, ?_⟩, h.lo, h.no⟩, rfl⟩
  rcases h.own.2 with hn | ⟨g, c, cur, hv, hg, hh, r⟩
  · exact .inl hn
  · refine .inr ⟨g, c, cur, hv, hg, ?_, r⟩
    simp only [Value.slice.injEq] at hv
    rw [hk g (.inr ⟨_, hv.1, rfl⟩)]; exact hh
theorem RArena.fp {w : World} {base b : Nat} {l : List Itm} {S : Nat → Prop} (h : RArena w base b l S) : ∀ k, S k → base ≤ k ∧ k < w.heap.size := by
  obtain ⟨ao, cap, h, rfl⟩ := h
  rintro k (rfl | ⟨a, rfl, rfl⟩)
  · exact ⟨h.lo, (Array.getElem?_eq_some_iff.1 h.hdr).1⟩
  · exact h.own.lt _ rfl
theorem RArena.below {w w' : World} {base b : Nat} {l : List Itm} {S : Nat → Prop} (h : RArena w base b l S) (hb : Below w.heap.size w w') : RArena w' base b l S :=
  h.keep fun k hk => hb.block k (h.fp k hk).2
theorem RArena.keeps {w w' : World} {base b : Nat} {l : List Itm} {S T : Nat → Prop} (h : RArena w base b l S) (hb : Keeps T w w') (hd : ∀ k, S k → ¬ T k) : RArena w' base b l S :=
  h.keep fun k hk => hb.block k (h.fp k hk).2 (hd k hk)

theorem rcount_arena (base b : Nat) (l : List Itm) (S : Nat → Prop) (w : World) (h : RArena w base b l S) :
    Calls Try.prog 58 #[.pointer (some ⟨b, 0, none⟩)] w fun e w' => e = .returned (.int .i64 l.length) ∧ w = w' := by
  obtain ⟨ao, cap, h, rfl⟩ := h
  have c1 : w.cell? ⟨b, 0, none⟩ = some (.slice ao l.length cap) := by simp [World.cell?, h.hdr]
  go_enter Try.func58, Try.ntmps58
  go_wp2
  go_ret
  exact ⟨rfl, rfl⟩

theorem radd_full (x : Itm) (base b : Nat) (l : List Itm) (S : Nat → Prop) (w : World) (h : RArena w base b l S) (hl : l.length = 1048576) :
    Calls Try.prog 104 #[.pointer (some ⟨b, 0, none⟩), .agg #[.string (x).key, .string (x).val, .int .u32 (x).flags, .int .u64 (x).id, .int .i64 (x).dies, .int .i64 (x).gen]] w fun e w' => e = .returned (.tuple #[.int .i64 0, .int .i64 3]) ∧ Below w.heap.size w w' := by
  obtain ⟨ao, cap, h, rfl⟩ := h
  have hb : b < w.heap.size := (Array.getElem?_eq_some_iff.1 h.hdr).1
  have c1 : w.cell? ⟨b, 0, none⟩ = some (.slice ao l.length cap) := by simp [World.cell?, h.hdr]
  have e1 : decide ((1048576 : Int) ≤ (l.length : Int)) = true := by rw [decide_eq_true_eq]; omega
  clear hl
  go_enter Try.func104, Try.ntmps104
  go_wp2
  go_ret2
  exact ⟨rfl, (Below.refl _ _).alloc (Nat.le_refl _) _⟩

set_option maxRecDepth 100000 in
set_option maxHeartbeats 3200000 in
theorem iradd_any (x : Itm) (base b n : Nat) (l : List Itm) (S : Nat → Prop) (w : World) (h : RArena w base b l S) (hbase : base ≤ w.heap.size) (hn : l.length = n) (hl : n < 1048576) :
    Calls Try.prog 104 #[.pointer (some ⟨b, 0, none⟩), .agg #[.string (x).key, .string (x).val, .int .u32 (x).flags, .int .u64 (x).id, .int .i64 (x).dies, .int .i64 (x).gen]] w fun e w' => e = .returned (.tuple #[.int .i64 (n + 1 : Nat), .int .i64 0]) ∧
      ∃ S', RArena w' base b (l ++ [x]) S' ∧ Keeps S w w' ∧ ∀ k, S' k → S k ∨ w.heap.size ≤ k := by
  obtain ⟨ao, cap, h, rfl⟩ := h
  subst hn
  have hb : b < w.heap.size := (Array.getElem?_eq_some_iff.1 h.hdr).1
  have hown := h.own
  have c1 : w.cell? ⟨b, 0, none⟩ = some (.slice ao l.length cap) := by simp [World.cell?, h.hdr]
  have c2 : (w.alloc (.cells x.cells.toArray 61)).cell? ⟨b, 0, none⟩ = some (.slice ao l.length cap) := by rw [World.cell?_alloc_past _ _ _ hb]; exact c1
  have f1 : w.frozen? ⟨b, 0, none⟩ = false := by simp [World.frozen?, h.hdr]
  have f2 : ∀ o, (w.alloc o).frozen? ⟨b, 0, none⟩ = false := fun o => by rw [World.frozen?_alloc_past _ _ _ hb]; exact f1
  have f3 : ∀ o o', ((w.alloc o).alloc o').frozen? ⟨b, 0, none⟩ = false := fun o o' => by rw [World.frozen?_alloc_past _ _ _ (by simp; omega)]; exact f2 o
  obtain ⟨x0, x1, x2, x3, x4, x5⟩ := (Box.new w x).cells
  obtain ⟨i0, hi0, hz0, hz1, hz2⟩ := info_parts info_item
  have HI := Lib.hid hi0; have HZ0 := Lib.hid hz0; have HZ1 := Lib.hid hz1; have HZ2 := Lib.hid hz2
  have e1 : decide ((1048576 : Int) ≤ (l.length : Int)) = false := by rw [decide_eq_false_iff_not]; omega
  have HLL := Lib.hid hl
  have e2 : l.length + 1 ≤ maxLen := by unfold maxLen; omega
  have e3 : (l.length + 1) * 64 ≤ 140737488355328 := by omega
  have E2 := Lib.hid e2
  have E3 := Lib.hid e3
  clear hl e2 e3
  have hno := h.no
  have hbne : w.heap.size ≠ b := by omega
  have hbne1 : w.heap.size + 1 ≠ b := by omega
  have hL := hown.lt
  clear hi0 hz0 hz1 hz2
  go_enter Try.func104, Try.ntmps104
  go_wp2_with fail
  have hnw : (((w.alloc (.cells x.cells.toArray 61)).drew).alloc (.cells x.cells.toArray 61)).heap[w.heap.size + 1]? = some (.cells x.cells.toArray 61 (0, 0)) := by
    have := heap_alloc_new ((w.alloc (.cells x.cells.toArray 61)).drew) (.cells x.cells.toArray 61)
    rw [show ((w.alloc (.cells x.cells.toArray 61)).drew).heap.size = w.heap.size + 1 by simp] at this
    exact this
  have HNW := Lib.hid hnw
  clear hnw
  have hW0 : Below w.heap.size w (((w.alloc (.cells x.cells.toArray 61)).drew).alloc (.cells x.cells.toArray 61)) :=
    (((Below.refl _ _).alloc (Nat.le_refl _) _).drew).alloc (by simp) _
  go_region_law ((refine step_append_lies _ (by rfl) _ _ _ (by rfl) base 61 i0 _ 6 64 Try.underlying45 HI.out HZ0.out HZ1.out HZ2.out rfl (by omega) (.slice ao l.length cap) l.length (l.flatMap Itm.cells) (by rfl) (((hown.alloc _).drew).alloc _) ⟨w.heap.size + 1, 0, none⟩ 1 1 x.cells (by rfl) (by rfl) (World.news_of_block (cs := x.cells.toArray) (t := 61) (fr := (0, 0)) HNW.out) (by simp [Itm.cells, Value.oneCell']) (by omega) E2.out E3.out (by simp; omega) (w.heap.size + 2) (by simp) ?_; intro g cap1 w1 hown1 hgrow hat hlt; have q0 : w1.heap[b]? = some (.cells #[.slice ao l.length cap] 131 (0, 0)) := (hgrow.block b (by simp; omega) (Ne.symm hno)).trans ((hW0.block b hb).trans h.hdr); have t0 : w1.cell? ⟨b, 0, none⟩ = some (.slice ao l.length cap) := (by simp [World.cell?, q0]); have t1 : w1.frozen? ⟨b, 0, none⟩ = false := (by simp [World.frozen?, q0])))
  all_goals
    have hK1 : Keeps (rarenaFp b ao) w w1 := (below_keeps hW0 _).again ⟨hgrow.os, hgrow.tape, hgrow.output, hgrow.size, fun k hk hn => hgrow.block k hk (fun c => hn (.inr (by
      cases ao with
      | none => simp [Value.ownBlock] at c
      | some a => simp [Value.ownBlock] at c; exact ⟨a, rfl, c.symm⟩)))⟩
    have hgb : g ≠ b := by rcases hat with h | h; exact (fun c => hno (c ▸ h)); omega
    have q3 := setCell_same q0 0 (.slice (some ⟨g, 0, none⟩) (l.length + 1) cap1)
    have hown2 := ownsRow_setCell_far (b := b) (o := 0) hown1 hgb (.slice (some ⟨g, 0, none⟩) (l.length + 1) cap1)
    have hK2 := hK1.again ((setCell_keeps w1 b 0 (.slice (some ⟨g, 0, none⟩) (l.length + 1) cap1)).mono (T := rarenaFp b ao) fun k _ h => .inl h)
    have hs : ∀ k, rarenaFp b (some ⟨g, 0, none⟩) k → rarenaFp b ao k ∨ w.heap.size ≤ k := by
      rintro k (hk | ⟨a, ha, hk⟩)
      · exact .inl (.inl hk)
      · simp only [Option.some.injEq] at ha
        subst ha
        rcases hat with hat | hat
        · cases ao with
          | none => simp [Value.ownBlock] at hat
          | some a => simp [Value.ownBlock] at hat; exact .inl (.inr ⟨a, rfl, hat.trans hk⟩)
        · exact .inr (by simp only at hk; omega)
    generalize World.setCell w1 _ _ = w2 at *
    have u0 : w2.cell? ⟨b, 0, none⟩ = some (.slice (some ⟨g, 0, none⟩) (l.length + 1) cap1) := by simp [World.cell?, q3]
    clear hgrow t0 t1 q0 hown1 hat hown HNW hW0 hK1
    go_wp2
    go_ret2
    exact ⟨rfl, _, ⟨some ⟨g, 0, none⟩, cap1, ⟨by simpa using q3, by simpa using hown2, h.lo, by simp [Value.ownBlock]; exact hgb⟩, rfl⟩, hK2, hs⟩
end Go.Proofs.Yteofdldlmmkgbaa

/-
  nestboxref06.At.
-/
namespace Go.Proofs.Yteofdldlmmkgbaa
open Go.RowKit
set_option linter.unusedVariables false

theorem flat_get : ∀ (l : List Itm) (i f : Nat) (hi : i < l.length), f < 6 → (l.flatMap Itm.cells)[i * 6 + f]? = (l[i]).cells[f]?
  | x :: l, 0, f, _, hf => by
    rw [List.flatMap_cons, List.getElem?_append_left (by simp [Itm.cells]; omega)]
    simp
  | x :: l, i + 1, f, hi, hf => by
    have e : (i + 1) * 6 + f - (Itm.cells x).length = i * 6 + f := by simp [Itm.cells]; omega
    rw [List.flatMap_cons, List.getElem?_append_right (by simp [Itm.cells]; omega), e, flat_get l i f (by simpa using hi) hf]
    simp

set_option maxHeartbeats 800000 in
theorem rat_in (base b : Nat) (l : List Itm) (S : Nat → Prop) (r : Int) (x : Itm) (w : World) (h : RArena w base b l S) (hl : l.length ≤ 1048576) (h1 : 1 ≤ r) (h2 : l[(r - 1).toNat]? = some x) :
    Calls Try.prog 59 #[.pointer (some ⟨b, 0, none⟩), .int .i64 r] w fun e w' => e = .returned (.tuple #[.agg #[.string (x).key, .string (x).val, .int .u32 (x).flags, .int .u64 (x).id, .int .i64 (x).dies, .int .i64 (x).gen], .bool true]) ∧ Below w.heap.size w w' := by
  obtain ⟨ao, cap, h, rfl⟩ := h
  obtain ⟨h3, h4⟩ := List.getElem?_eq_some_iff.1 h2
  have hb : b < w.heap.size := (Array.getElem?_eq_some_iff.1 h.hdr).1
  have c0 : w.cell? ⟨b, 0, none⟩ = some (.slice ao l.length cap) := by simp [World.cell?, h.hdr]
  obtain ⟨n, hn⟩ : ∃ n : Nat, (r - 1).toNat = n := ⟨_, rfl⟩
  have hr : r - 1 = (n : Int) := by omega
  simp only [hn] at h3 h4
  rcases h.own.2 with ⟨_, hz⟩ | ⟨g, c, cur, hv, hg, hh, hnc, hcm, hcs, ht⟩
  · omega
  · simp only [Value.slice.injEq, true_and] at hv
    obtain ⟨rfl, rfl⟩ := hv
    have hgl : g < w.heap.size := (Array.getElem?_eq_some_iff.1 hh).1
    have hc : ∀ f, f < 6 → w.cell? ⟨g, n * 6 + f, none⟩ = x.cells[f]? := fun f hf => by
      rw [← h4, ← flat_get l n f h3 hf, ← ht, List.getElem?_take, if_pos (by omega)]
      simp [World.cell?, hh]
    have x0 : w.cell? ⟨g, n * 6, none⟩ = some (.string x.key) := hc 0 (by omega)
    have x1 : w.cell? ⟨g, n * 6 + 1, none⟩ = some (.string x.val) := hc 1 (by omega)
    have x2 : w.cell? ⟨g, n * 6 + 2, none⟩ = some (.int .u32 x.flags) := hc 2 (by omega)
    have x3 : w.cell? ⟨g, n * 6 + 3, none⟩ = some (.int .u64 x.id) := hc 3 (by omega)
    have x4 : w.cell? ⟨g, n * 6 + 4, none⟩ = some (.int .i64 x.dies) := hc 4 (by omega)
    have x5 : w.cell? ⟨g, n * 6 + 5, none⟩ = some (.int .i64 x.gen) := hc 5 (by omega)
    have d1 : decide (r < 1) = false := by simp; omega
    have d2 : decide ((l.length : Int) < r) = false := by simp; omega
    have HR := Lib.hid hr
    have d3 : (0 : Int) ≤ (n : Int) := by omega
    have d4 : (n : Int) < (l.length : Int) := by omega
    have d5 : r = (n : Int) + 1 := by omega
    clear hc hh ht hcs hcm h4 h2 hr hn
    subst d5
    go_enter Try.func59, Try.ntmps59
    go_wp2
    refine bodyPost_ret (v := .tuple #[.agg x.cells.toArray, .bool true]) (by simp [results, Try.results59, go_sem, Itm.cells]) rfl ⟨rfl, ?_⟩
    exact (Below.refl _ _).alloc (Nat.le_refl _) _
theorem rat_out (base b : Nat) (l : List Itm) (S : Nat → Prop) (r : Int) (w : World) (h : RArena w base b l S) (hr : ¬ (1 ≤ r ∧ r ≤ l.length)) :
    Calls Try.prog 59 #[.pointer (some ⟨b, 0, none⟩), .int .i64 r] w fun e w' => e = .returned (.tuple #[.agg #[.string ⟨#[]⟩, .string ⟨#[]⟩, .int .u32 0, .int .u64 0, .int .i64 0, .int .i64 0], .bool false]) ∧ Below w.heap.size w w' := by
  obtain ⟨ao, cap, h, rfl⟩ := h
  have hb : b < w.heap.size := (Array.getElem?_eq_some_iff.1 h.hdr).1
  have c0 : w.cell? ⟨b, 0, none⟩ = some (.slice ao l.length cap) := by simp [World.cell?, h.hdr]
  by_cases h1 : r < 1
  · go_enter Try.func59, Try.ntmps59
    go_wp2
    refine bodyPost_ret (v := .tuple #[.agg Itm.zero.cells.toArray, .bool false]) (by simp [results, Try.results59, go_sem, Itm.cells, Itm.zero]; rfl) rfl ⟨rfl, ?_⟩
    exact (Below.refl _ _).alloc (Nat.le_refl _) _
  · have h2 : 1 ≤ r := by omega
    have h3 : (l.length : Int) < r := by omega
    go_enter Try.func59, Try.ntmps59
    go_wp2
    refine bodyPost_ret (v := .tuple #[.agg Itm.zero.cells.toArray, .bool false]) (by simp [results, Try.results59, go_sem, Itm.cells, Itm.zero]; rfl) rfl ⟨rfl, ?_⟩
    exact (Below.refl _ _).alloc (Nat.le_refl _) _
theorem void_rarena (base : Nat) (w : World) (hb : base ≤ w.heap.size) : RArena (w.alloc (.cells #[.slice none 0 0] 131)) base w.heap.size [] (rarenaFp w.heap.size none) :=
  ⟨none, 0, ⟨by simpa using heap_alloc_new w _, World.ownsRow_nil _ _ _ _, hb, by simp [Value.ownBlock]⟩, rfl⟩
end Go.Proofs.Yteofdldlmmkgbaa

/-
  The document's cells, new over words; two rising lists that say the same are one.
-/
namespace Go.Proofs.Yteofdldlmmkgbaa
open Go.RowKit
set_option linter.unusedVariables false

/-- A list of the document's words that may be read. -/
structure RWds (w : World) (a : Option Addr) (cap : Nat) (l : List (Int × Int)) : Prop where
  le : l.length ≤ cap
  most : cap ≤ maxLen
  wf : ∀ p ∈ l, (Lit.int .u64 p.1).wf = true ∧ (Lit.int .u64 p.2).wf = true
  cell : l = [] ∨ ∃ b off, a = some ⟨b, off, none⟩ ∧ ∀ i, (hi : i < l.length) → w.cell? ⟨b, off + i * 2, none⟩ = some (.int .u64 (l[i]).1) ∧ w.cell? ⟨b, off + i * 2 + 1, none⟩ = some (.int .u64 (l[i]).2)
theorem RWds.at {w : World} {a : Option Addr} {cap : Nat} {l : List (Int × Int)} (h : RWds w a cap l) (i : Nat) (hi : i < l.length) :
    ∃ b off x y, a = some ⟨b, off, none⟩ ∧ l[i]? = some (x, y) ∧ ((Lit.int .u64 x).wf = true ∧ (Lit.int .u64 y).wf = true) ∧ w.cell? ⟨b, off + i * 2, none⟩ = some (.int .u64 x) ∧ w.cell? ⟨b, off + i * 2 + 1, none⟩ = some (.int .u64 y) := by
  rcases h.cell with rfl | ⟨b, off, rfl, h5⟩
  · simp at hi
  · exact ⟨b, off, l[i].1, l[i].2, rfl, List.getElem?_eq_getElem hi, h.wf _ (List.getElem_mem hi), h5 i hi⟩
theorem RWds.below {w w' : World} {a : Option Addr} {cap : Nat} {l : List (Int × Int)} (h : RWds w a cap l) (hb : Below w.heap.size w w') : RWds w' a cap l := by
  refine ⟨h.le, h.most, h.wf, h.cell.imp id fun ⟨b, off, e, h5⟩ => ⟨b, off, e, fun i hi => ?_⟩⟩
  obtain ⟨h6, h7⟩ := h5 i hi
  exact ⟨(hb.cell (World.block_lt_of_cell? _ _ h6)).trans h6, (hb.cell (World.block_lt_of_cell? _ _ h7)).trans h7⟩

def rfold (l : List (Int × Int)) : List (Int × Int) := l.foldl (fun x p => rput x p.1 p.2) []
theorem rfold_take {l : List (Int × Int)} {k : Nat} {x y : Int} (h : l[k]? = some (x, y)) : rfold (l.take (k + 1)) = rput (rfold (l.take k)) x y := by
  unfold rfold; rw [List.take_add_one, h, List.foldl_append]; rfl
theorem rfold_ris (l : List (Int × Int)) : Ris (rfold l) := by
  have key : ∀ (l o : List (Int × Int)), Ris o → Ris (l.foldl (fun x p => rput x p.1 p.2) o) := by
    intro l
    induction l with
    | nil => intro o h; exact h
    | cons p l ih => intro o h; exact ih _ (by show Ris (rput o p.1 p.2); rw [rput_ins h]; exact rins_ris h _ _)
  exact key l [] List.Pairwise.nil
theorem rins_len' (l : List (Int × Int)) (a v : Int) : (rins l a v).length ≤ l.length + 1 := by
  induction l with
  | nil => unfold rins; split <;> simp
  | cons p r ih =>
    unfold rins
    split
    · simp only [List.length_cons]; omega
    · split <;> split <;> simp only [List.length_cons] <;> omega
theorem rfold_len (l : List (Int × Int)) : (rfold l).length ≤ l.length := by
  have key : ∀ (l o : List (Int × Int)), Ris o → (l.foldl (fun x p => rput x p.1 p.2) o).length ≤ o.length + l.length := by
    intro l
    induction l with
    | nil => intro o h; simp
    | cons p l ih =>
      intro o h
      have e := rput_ins h p.1 p.2
      have h1 := ih (rput o p.1 p.2) (by rw [e]; exact rins_ris h _ _)
      have h2 := rins_len' o p.1 p.2
      rw [← e] at h2
      simp only [List.foldl_cons, List.length_cons]; omega
  have := key l [] List.Pairwise.nil
  unfold rfold; simpa using this

/-- Rising lists without zeros that say the same are one. -/
theorem ris_eq : ∀ {l m : List (Int × Int)}, Ris l → Ris m → (∀ p ∈ l, p.2 ≠ 0) → (∀ p ∈ m, p.2 ≠ 0) → (∀ a, rlook l a = rlook m a) → l = m
  | [], [], _, _, _, _, _ => rfl
  | [], q :: m, _, _, _, hm, h => by
    have := h q.1
    rw [show rlook (q :: m) q.1 = q.2 by simp [rlook]] at this
    exact absurd this.symm (hm q (by simp))
  | p :: l, [], _, _, hl, _, h => by
    have := h p.1
    rw [show rlook (p :: l) p.1 = p.2 by simp [rlook]] at this
    exact absurd this (hl p (by simp))
  | p :: l, q :: m, rl, rm, hl, hm, h => by
    have rl2 := List.pairwise_cons.1 rl
    have rm2 := List.pairwise_cons.1 rm
    have e1 : p.1 = q.1 := by
      rcases Int.lt_trichotomy p.1 q.1 with hlt | heq | hgt
      · have h1 := h p.1
        rw [show rlook (p :: l) p.1 = p.2 by simp [rlook], rlook_out (l := q :: m) (fun x hx => by
          rcases List.mem_cons.1 hx with rfl | hx
          · omega
          · have := rm2.1 x hx; omega)] at h1
        exact absurd h1 (hl p (by simp))
      · exact heq
      · have h1 := h q.1
        rw [show rlook (q :: m) q.1 = q.2 by simp [rlook], rlook_out (l := p :: l) (fun x hx => by
          rcases List.mem_cons.1 hx with rfl | hx
          · omega
          · have := rl2.1 x hx; omega)] at h1
        exact absurd h1.symm (hm q (by simp))
    have e2 : p.2 = q.2 := by
      have h1 := h p.1
      rw [show rlook (p :: l) p.1 = p.2 by simp [rlook], show rlook (q :: m) p.1 = q.2 by rw [e1]; simp [rlook]] at h1
      exact h1
    have e3 : p = q := Prod.ext e1 e2
    subst e3
    rw [ris_eq rl2.2 rm2.2 (fun x hx => hl x (by simp [hx])) (fun x hx => hm x (by simp [hx])) (fun a => ?_)]
    by_cases ha : p.1 = a
    · rw [rlook_out (l := l) (fun x hx => by have := rl2.1 x hx; omega), rlook_out (l := m) (fun x hx => by have := rm2.1 x hx; omega)]
    · have h1 := h a
      rw [show rlook (p :: l) a = rlook l a by simp [rlook, ha], show rlook (p :: m) a = rlook m a by simp [rlook, ha]] at h1
      exact h1

set_option maxHeartbeats 1000000 in
theorem rnew_any (w : World) (ao : Option Addr) (cap : Nat) (l : List (Int × Int)) (h : RWds w ao cap l) (hsz : l.length ≤ 1000) : Calls Try.prog 55 #[.slice ao l.length cap] w
    fun e w' => e = .returned (.pointer (some ⟨w.heap.size, 0, none⟩)) ∧ (∃ lv, RCells w' w.heap.size w.heap.size lv ⟨rfold l, 0, 0, 0, 0, 0⟩) ∧ Below w.heap.size w w' := by
  have HP := Lib.hid h; have HM := Lib.hid hsz
  clear h hsz
  go_enter Try.func55, Try.ntmps55
  go_wp2
  go_loopw [4] (fun i wr => ∃ (k : Nat) (lv : Value), k ≤ l.length ∧ i = .int .i64 k ∧ RCells wr w.heap.size w.heap.size lv ⟨rfold (l.take k), 0, 0, 0, 0, 0⟩ ∧ Below w.heap.size w wr) (fun i _ => l.length - (intOf i).toNat)
  case atStart => exact ⟨0, .slice none 0 0, by omega, rfl, ⟨heap_alloc_new w _, Nat.le_refl _, World.ownsRow_nil _ _ _ _, fun p hp => by cases hp⟩, below_alloc' w _⟩
  case round =>
    obtain ⟨k, lv, hk, rfl, hR, hbl⟩ := hrel
    by_cases hlt : k < l.length
    · obtain ⟨b, off, x, y, rfl, hx, hw, c0, c1⟩ := (HP.out.below hbl).at k hlt
      have hlt' : (k : Int) < l.length := by have := HM.out; omega
      have hst := rfold_take hx
      have hml := HM.out
      have hfl := rfold_len (l.take k)
      rw [List.length_take] at hfl
      have hput := fun W (hb : Below wr.heap.size wr W) => rput_any W w.heap.size w.heap.size lv _ (hR.keep hb) (by have := HM.out; simp only; omega) (Nat.le_trans hbl.size hb.size) x y hw.1 hw.2
      have x0 := fun st : ExtW wr => st.cell c0
      have x1 := fun st : ExtW wr => st.cell c1
      have HPU := Lib.hid hput; have HS := Lib.hid hst; have HB := Lib.hid hbl
      clear hput hst hbl hR hx hw c0 c1 hfl
      go_wp2
      refine wp_region_ext_tail 11 (by kernel_rfl) (by kernel_rfl) ?_
      simp only [List.take_succ_cons, List.take_zero, List.drop_succ_cons, List.drop_zero]
      repeat (go_big_quiet_step (fail))
      refine wpQuiet_nil ?_
      rintro W ⟨⟨W2, hW⟩, rfl⟩
      clear x0 x1
      have hp := HPU.out W hW
      have HW := Lib.hid hW
      clear hW
      go_wp2_with (go_at_call 99; refine hp.mono ?_; rintro e w2 ⟨rfl, ⟨lv2, r2⟩, k2⟩)
      have hb2 : Below w.heap.size w w2 := keeps_below k2 (HB.out.trans (HW.out.mono HB.out.size)) (Nat.le_trans HB.out.size HW.out.size) (fun q hq => by rw [hq]; exact Nat.le_refl _)
      go_roundw
      case rel => exact ⟨k + 1, lv2, by omega, by go_num, by rw [HS.out]; exact r2, hb2⟩
      case measure => simp [intOf]; omega
    · obtain rfl : k = l.length := by omega
      rw [List.take_length] at hR
      have HR := Lib.hid hR; have HB := Lib.hid hbl
      clear hR hbl
      go_wp2
      go_ret
      exact ⟨rfl, ⟨lv, HR.out⟩, HB.out⟩
end Go.Proofs.Yteofdldlmmkgbaa
