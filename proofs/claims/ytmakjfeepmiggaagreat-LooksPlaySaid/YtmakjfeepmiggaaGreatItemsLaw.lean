/-
  nestboxlaw06: the walks of lives and of the statements.
-/
import Derived.Test.YtmakjfeepmiggaaGreatItemsAt
namespace Go.Proofs.YtmakjfeepmiggaaGreat
open Go.RowKit
set_option linter.unusedVariables false

theorem add_lit (x : Itm) (base b : Nat) (l : List Itm) (S : Nat → Prop) (w : World) (h : Arena w base b l S) (hbase : base ≤ w.heap.size) (hl : l.length < 1048576) :
    Calls Tryz.prog 79 #[.pointer (some ⟨b, 0, none⟩), .agg #[.string (x).key, .string (x).val, .int .u32 (x).flags, .int .u64 (x).id, .int .i64 (x).dies, .int .i64 (x).gen]] w fun e w' => e = .returned (.tuple #[.int .i64 (l.length + 1 : Nat), .int .i64 0]) ∧
      ∃ S', Arena w' base b (l ++ [x]) S' ∧ Keeps S w w' ∧ ∀ k, S' k → S k ∨ w.heap.size ≤ k := iadd_any x base b l S w h hbase hl
theorem at_lit (base b : Nat) (l : List Itm) (S : Nat → Prop) (r : Int) (w : World) (h : Arena w base b l S) (hl : l.length ≤ 1048576) :
    Calls Tryz.prog 75 #[.pointer (some ⟨b, 0, none⟩), .int .i64 r] w fun e w' => e = .returned (.tuple #[.agg #[.string ((atOf l r).1).key, .string ((atOf l r).1).val, .int .u32 ((atOf l r).1).flags, .int .u64 ((atOf l r).1).id, .int .i64 ((atOf l r).1).dies, .int .i64 ((atOf l r).1).gen], .bool (atOf l r).2]) ∧ Below w.heap.size w w' := iat_any base b l S r w h hl

/-- One arena, all of whose blocks are the call's own: what the walk needs of it. -/
theorem add_one (x : Itm) (W : World) (base b : Nat) (l : List Itm) (S : Nat → Prop) (w : World) (h : Arena w base b l S) (hB : Below base W w) (hb : base ≤ w.heap.size) (hl : l.length < 1048576) :
    Calls Tryz.prog 79 #[.pointer (some ⟨b, 0, none⟩), .agg #[.string (x).key, .string (x).val, .int .u32 (x).flags, .int .u64 (x).id, .int .i64 (x).dies, .int .i64 (x).gen]] w fun e w' => e = .returned (.tuple #[.int .i64 (l.length + 1 : Nat), .int .i64 0]) ∧
      ∃ S', Arena w' base b (l ++ [x]) S' ∧ Below base W w' ∧ base ≤ w'.heap.size ∧ Keeps S w w' ∧ ∀ k, S' k → S k ∨ w.heap.size ≤ k :=
  (add_lit x base b l S w h hb hl).mono fun e w' ⟨he, S', h1, h2, h3⟩ => ⟨he, S', h1, keeps_below h2 hB hb (fun k hk => (h.fp k hk).1), Nat.le_trans hb h2.size, h2, h3⟩
theorem at_one (W : World) (base b : Nat) (l : List Itm) (S : Nat → Prop) (r : Int) (w : World) (h : Arena w base b l S) (hB : Below base W w) (hb : base ≤ w.heap.size) (hl : l.length ≤ 1048576) :
    Calls Tryz.prog 75 #[.pointer (some ⟨b, 0, none⟩), .int .i64 r] w fun e w' => e = .returned (.tuple #[.agg #[.string ((atOf l r).1).key, .string ((atOf l r).1).val, .int .u32 ((atOf l r).1).flags, .int .u64 ((atOf l r).1).id, .int .i64 ((atOf l r).1).dies, .int .i64 ((atOf l r).1).gen], .bool (atOf l r).2]) ∧ Arena w' base b l S ∧ Below base W w' ∧ base ≤ w'.heap.size ∧ Below w.heap.size w w' :=
  (at_lit base b l S r w h hl).mono fun e w' ⟨he, h1⟩ => ⟨he, h.below h1, hB.trans (h1.mono hb), Nat.le_trans hb h1.size, h1⟩

end Go.Proofs.YtmakjfeepmiggaaGreat
