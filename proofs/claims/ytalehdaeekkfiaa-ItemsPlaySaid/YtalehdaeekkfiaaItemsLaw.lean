/-
  nestboxlaw06: the walks of lives and of the statements.
-/
import Derived.Test.YtalehdaeekkfiaaItemsAt
namespace Go.Proofs.Ytalehdaeekkfiaa
open Go.RowKit
set_option linter.unusedVariables false

theorem add_lit (x : Itm) (base b : Nat) (l : List Itm) (S : Nat → Prop) (w : World) (h : Arena w base b l S) (hbase : base ≤ w.heap.size) (hl : l.length < 1048576) :
    Calls Try.prog 15 #[.pointer (some ⟨b, 0, none⟩), .agg #[.string (x).key, .string (x).val, .int .u32 (x).flags, .int .u64 (x).id, .int .i64 (x).dies, .int .i64 (x).gen]] w fun e w' => e = .returned (.tuple #[.int .i64 (l.length + 1 : Nat), .int .i64 0]) ∧
      ∃ S', Arena w' base b (l ++ [x]) S' ∧ Keeps S w w' ∧ ∀ k, S' k → S k ∨ w.heap.size ≤ k := add_any x base b l S w h hbase hl
theorem at_lit (base b : Nat) (l : List Itm) (S : Nat → Prop) (r : Int) (w : World) (h : Arena w base b l S) (hl : l.length ≤ 1048576) :
    Calls Try.prog 19 #[.pointer (some ⟨b, 0, none⟩), .int .i64 r] w fun e w' => e = .returned (.tuple #[.agg #[.string ((atOf l r).1).key, .string ((atOf l r).1).val, .int .u32 ((atOf l r).1).flags, .int .u64 ((atOf l r).1).id, .int .i64 ((atOf l r).1).dies, .int .i64 ((atOf l r).1).gen], .bool (atOf l r).2]) ∧ Below w.heap.size w w' := at_any base b l S r w h hl

/-- One arena, all of whose blocks are the call's own: what the walk needs of it. -/
theorem add_one (x : Itm) (W : World) (base b : Nat) (l : List Itm) (S : Nat → Prop) (w : World) (h : Arena w base b l S) (hB : Below base W w) (hb : base ≤ w.heap.size) (hl : l.length < 1048576) :
    Calls Try.prog 15 #[.pointer (some ⟨b, 0, none⟩), .agg #[.string (x).key, .string (x).val, .int .u32 (x).flags, .int .u64 (x).id, .int .i64 (x).dies, .int .i64 (x).gen]] w fun e w' => e = .returned (.tuple #[.int .i64 (l.length + 1 : Nat), .int .i64 0]) ∧
      ∃ S', Arena w' base b (l ++ [x]) S' ∧ Below base W w' ∧ base ≤ w'.heap.size ∧ Keeps S w w' ∧ ∀ k, S' k → S k ∨ w.heap.size ≤ k :=
  (add_lit x base b l S w h hb hl).mono fun e w' ⟨he, S', h1, h2, h3⟩ => ⟨he, S', h1, keeps_below h2 hB hb (fun k hk => (h.fp k hk).1), Nat.le_trans hb h2.size, h2, h3⟩
theorem at_one (W : World) (base b : Nat) (l : List Itm) (S : Nat → Prop) (r : Int) (w : World) (h : Arena w base b l S) (hB : Below base W w) (hb : base ≤ w.heap.size) (hl : l.length ≤ 1048576) :
    Calls Try.prog 19 #[.pointer (some ⟨b, 0, none⟩), .int .i64 r] w fun e w' => e = .returned (.tuple #[.agg #[.string ((atOf l r).1).key, .string ((atOf l r).1).val, .int .u32 ((atOf l r).1).flags, .int .u64 ((atOf l r).1).id, .int .i64 ((atOf l r).1).dies, .int .i64 ((atOf l r).1).gen], .bool (atOf l r).2]) ∧ Arena w' base b l S ∧ Below base W w' ∧ base ≤ w'.heap.size ∧ Below w.heap.size w w' :=
  (at_lit base b l S r w h hl).mono fun e w' ⟨he, h1⟩ => ⟨he, h.below h1, hB.trans (h1.mono hb), Nat.le_trans hb h1.size, h1⟩

set_option maxHeartbeats 800000 in
theorem lives06 (w : World) : Calls Try.prog 13 #[] w fun e w' => e = .returned (.bool true) ∧ Below w.heap.size w w' := by
  go_enter Try.func13, Try.ntmps13
  go_wp2_with fail
  refine (new_arena w.heap.size _ (by simp)).mono ?_
  rintro e w1 ⟨b, S, rfl, hA, hB, _⟩
  have hb : w.heap.size ≤ w1.heap.size := hB.size
  go_wp2_with fail
  refine (add_one ⟨⟨#[97]⟩, ⟨#[]⟩, 0, 0, 0, 0⟩ w _ b _ S _ hA hB hb (by simp)).mono ?_
  rintro e w2 ⟨rfl, S2, hA2, hB2, hb2, _, _⟩
  go_wp2_with fail
  refine (add_one ⟨⟨#[98]⟩, ⟨#[]⟩, 0, 0, 0, 0⟩ w _ b _ S2 _ hA2 hB2 hb2 (by simp)).mono ?_
  rintro e w3 ⟨rfl, S3, hA3, hB3, hb3, _, _⟩
  go_wp2_with fail
  refine (at_one w _ b _ S3 1 _ hA3 hB3 hb3 (by simp)).mono ?_
  rw [show atOf ([] ++ [⟨⟨#[97]⟩, ⟨#[]⟩, 0, 0, 0, 0⟩] ++ [⟨⟨#[98]⟩, ⟨#[]⟩, 0, 0, 0, 0⟩]) 1 = (⟨⟨#[97]⟩, ⟨#[]⟩, 0, 0, 0, 0⟩, true) from rfl]
  rintro e w4 ⟨rfl, hA4, hB4, hb4, _⟩
  dsimp only
  have hn4 : w4.heap.size < w4.heap.size + 1 := by omega
  go_wp2_with fail
  refine (at_one w _ b _ S3 0 _ (hA4.below ((Below.refl _ _).alloc (Nat.le_refl _) _)) (hB4.alloc hb4 _) (by simp; omega) (by simp)).mono ?_
  rw [show atOf ([] ++ [⟨⟨#[97]⟩, ⟨#[]⟩, 0, 0, 0, 0⟩] ++ [⟨⟨#[98]⟩, ⟨#[]⟩, 0, 0, 0, 0⟩]) 0 = (Itm.zero, false) from rfl]
  rintro e w5 ⟨rfl, hA5, hB5, hb5, hK5⟩
  have hk5 : w5.cell? ⟨w4.heap.size, 0, none⟩ = some (.string ⟨#[97]⟩) := (hK5.cell (p := ⟨w4.heap.size, 0, none⟩) (by simp)).trans (by rw [World.cell?_alloc_at _ _ _ _ rfl]; rfl)
  have hl5 : w4.heap.size < w5.heap.size := World.block_lt_of_cell? _ _ hk5
  clear hK5
  dsimp only
  go_wp2_with fail
  refine (at_one w _ b _ S3 3 _ (hA5.below ((Below.refl _ _).alloc (Nat.le_refl _) _)) (hB5.alloc hb5 _) (by simp; omega) (by simp)).mono ?_
  rw [show atOf ([] ++ [⟨⟨#[97]⟩, ⟨#[]⟩, 0, 0, 0, 0⟩] ++ [⟨⟨#[98]⟩, ⟨#[]⟩, 0, 0, 0, 0⟩]) 3 = (Itm.zero, false) from rfl]
  rintro e w6 ⟨rfl, hA6, hB6, hb6, hK6⟩
  have hk6 : w6.cell? ⟨w4.heap.size, 0, none⟩ = some (.string ⟨#[97]⟩) := (hK6.cell (p := ⟨w4.heap.size, 0, none⟩) (by simp; omega)).trans (by rw [World.cell?_alloc_past _ _ _ hl5]; exact hk5)
  have hl6 : w4.heap.size < w6.heap.size := World.block_lt_of_cell? _ _ hk6
  have hl6' : w4.heap.size < w6.heap.size + 1 := by omega
  clear hK6
  dsimp only
  go_wp2_with (go_at_call 17; refine (count_arena w.heap.size b _ S3 _ (hA6.below ((Below.refl _ _).alloc (Nat.le_refl _) _))).mono ?_; rintro e w7 ⟨rfl, rfl⟩)
  go_ret
  exact ⟨rfl, hB6.alloc hb6 _⟩
end Go.Proofs.Ytalehdaeekkfiaa
