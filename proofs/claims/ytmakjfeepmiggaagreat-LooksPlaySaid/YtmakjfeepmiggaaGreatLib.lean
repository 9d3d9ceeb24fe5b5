/-
  General lemmas of this prover's own: lists in memory, arrays by value.
-/
import Derived.Test.YtmakjfeepmiggaaGreatRows
import Derived.WalkKit
import Derived.WalkSpells
import Derived.WalkLawsBesides
import Derived.Handy
import Derived.Lib.Hide
import Derived.Deep.QuietTactic
import Derived.BigQuiet
namespace Go.Proofs.YtmakjfeepmiggaaGreat
open Go.RowKit
set_option linter.unusedVariables false

theorem ret_u64 {a b : Int} (h : a = b) : Ending.returned (.int .u64 a) = .returned (.int .u64 b) := by rw [h]
theorem ret_i64 {a b : Int} (h : a = b) : Ending.returned (.int .i64 a) = .returned (.int .i64 b) := by rw [h]
theorem below_drewN (w : World) (n : Nat) : Below w.heap.size w (w.drewN n) := ⟨rfl, rfl, rfl, Nat.le_refl _, fun _ _ => rfl⟩
theorem bcell {W w1 : World} (hb : Below W.heap.size W w1) : (∀ b o, b < W.heap.size → w1.cell? ⟨b, o, none⟩ = W.cell? ⟨b, o, none⟩) ∧ (∀ b o, b < W.heap.size → w1.frozen? ⟨b, o, none⟩ = W.frozen? ⟨b, o, none⟩) :=
  ⟨fun b o h => hb.cell (p := ⟨b, o, none⟩) h, fun b o h => hb.frozen (p := ⟨b, o, none⟩) h⟩

/-- A list in memory that the call itself made: nil and empty, or a piece of a block from 'base' on that nobody has frozen. Its n elements are the cells xs. -/
def Lst (w : World) (base : Nat) (v : Value) (n : Nat) (xs : List Value) : Prop :=
  (v = .slice none 0 0 ∧ n = 0 ∧ xs = []) ∨
  ∃ g off cap cur e, v = .slice (some ⟨g, off, none⟩) n cap ∧ base ≤ g ∧ w.heap[g]? = some (.cells cur e (0, 0)) ∧ n ≤ cap ∧ cap ≤ maxLen ∧ (cur.toList.drop off).take xs.length = xs

theorem Lst.of_own {w : World} {base e size : Nat} {v : Value} {n : Nat} {xs : List Value} (h : w.ownsRow base e size v n xs) : Lst w base v n xs := by
  obtain ⟨h1, ⟨rfl, rfl⟩ | ⟨g, cap, cur, rfl, hb, hg, hn, hm, hs, ht⟩⟩ := h
  · exact .inl ⟨rfl, rfl, by simpa using h1⟩
  · exact .inr ⟨g, 0, cap, cur, e, rfl, hb, hg, hn, hm, by rw [h1]; simpa using ht⟩
theorem Lst.mono {w : World} {base base' : Nat} {v : Value} {n : Nat} {xs : List Value} (h : Lst w base v n xs) (hb : base' ≤ base) : Lst w base' v n xs := by
  rcases h with h | ⟨g, off, cap, cur, e, h1, h2, h3⟩
  · exact .inl h
  · exact .inr ⟨g, off, cap, cur, e, h1, by omega, h3⟩
theorem Lst.keep {w w' : World} {base : Nat} {v : Value} {n : Nat} {xs : List Value} (h : Lst w base v n xs) (hk : ∀ k, v.ownBlock = some k → w'.heap[k]? = w.heap[k]?) : Lst w' base v n xs := by
  rcases h with h | ⟨g, off, cap, cur, e, rfl, h2, h3, h4⟩
  · exact .inl h
  · exact .inr ⟨g, off, cap, cur, e, rfl, h2, by rw [hk g (by simp [Value.ownBlock])]; exact h3, h4⟩
theorem Lst.lt {w : World} {base : Nat} {v : Value} {n : Nat} {xs : List Value} (h : Lst w base v n xs) : ∀ k, v.ownBlock = some k → base ≤ k ∧ k < w.heap.size := by
  intro k hk
  rcases h with ⟨rfl, _⟩ | ⟨g, off, cap, cur, e, rfl, h2, h3, h4⟩
  · simp [Value.ownBlock] at hk
  · simp [Value.ownBlock] at hk
    subst hk
    exact ⟨h2, (Array.getElem?_eq_some_iff.1 h3).1⟩
theorem Lst.below {w w' : World} {B base : Nat} {v : Value} {n : Nat} {xs : List Value} (h : Lst w base v n xs) (hb : Below B w w') (hB : w.heap.size ≤ B) : Lst w' base v n xs :=
  h.keep fun k hk => hb.block k (by have := (h.lt k hk).2; omega)
theorem Lst.drop {w : World} {base : Nat} {v : Value} {n : Nat} {xs : List Value} (h : Lst w base v n xs) : n ≤ maxLen := by
  rcases h with ⟨_, rfl, _⟩ | ⟨g, off, cap, cur, e, h1, h2, h3, h4, h5, h6⟩
  · exact Nat.zero_le _
  · omega

/-- What may be read of a list, whoever made it. -/
def Rd (w : World) (v : Value) (n : Nat) (xs : List Value) : Prop :=
  ∃ a cap, v = .slice a n cap ∧ n ≤ cap ∧ cap ≤ maxLen ∧ (a = none → cap = 0) ∧ (xs = [] ∨ ∃ b off, a = some ⟨b, off, none⟩ ∧ ∀ i, i < xs.length → w.cell? ⟨b, off + i, none⟩ = xs[i]?)
theorem Lst.rd {w : World} {base : Nat} {v : Value} {n : Nat} {xs : List Value} (h : Lst w base v n xs) : Rd w v n xs := by
  rcases h with ⟨rfl, rfl, rfl⟩ | ⟨g, off, cap, cur, e, rfl, h2, h3, h4, h5, h6⟩
  · exact ⟨none, 0, rfl, Nat.le_refl _, Nat.zero_le _, fun _ => rfl, .inl rfl⟩
  · refine ⟨_, cap, rfl, h4, h5, fun h => by simp at h, .inr ⟨g, off, rfl, fun i hi => ?_⟩⟩
    have : xs[i]? = ((cur.toList.drop off).take xs.length)[i]? := by rw [h6]
    rw [this, List.getElem?_take, if_pos hi, List.getElem?_drop]
    simp [World.cell?, h3]

/-- A world that has come out of w by new blocks alone. For regions that draw their order and hold calls that make memory. -/
structure ExtW (w : World) where
  val : World
  below : Below w.heap.size w val
instance instExtW (w : World) : Nonempty (ExtW w) := ⟨⟨w, Below.refl _ _⟩⟩
theorem wp_region_ext {P : Program} {id : Nat} {Q : Exit → Act → World → Prop} {a : Act} {w : World} {l : List Oper} (hm : P.follows .mixedOrders = true) (hB : Region.lexB .any l.toArray = true)
    (h : wpQuiet P l.toArray (fun W => ∃ s : ExtW w, W = s.val) (fun a' => ∀ W, (∃ s : ExtW w, W = s.val) → Q .normal a' W) l a) : (Code.region id l.toArray true).wp P Q a w :=
  wp_region_quiet (C := fun W => ∃ s : ExtW w, W = s.val) hm hB ⟨⟨_, (Below.refl _ _).drew⟩, rfl⟩ (by simpa using h)
theorem calls_ext {P : Program} {f : FuncId} {args : Array Value} {w : World} {s : ExtW w} {v : Value}
    (h : Calls P f args s.val fun e w' => e = .returned v ∧ Below s.val.heap.size s.val w') : Calls P f args s.val fun e W => e = .returned v ∧ ∃ s' : ExtW w, W = s'.val :=
  h.mono fun _ _ ⟨he, hb⟩ => ⟨he, ⟨_, s.below.trans (hb.mono s.below.size)⟩, rfl⟩
theorem calls_ext_same {P : Program} {f : FuncId} {args : Array Value} {w : World} {s : ExtW w} {v : Value}
    (h : Calls P f args s.val fun e w' => e = .returned v ∧ s.val = w') : Calls P f args s.val fun e W => e = .returned v ∧ ∃ s' : ExtW w, W = s'.val :=
  h.mono fun _ _ ⟨he, hb⟩ => ⟨he, s, hb.symm⟩
theorem ExtW.cell {w : World} (s : ExtW w) {b o : Nat} {v : Value} (h : w.cell? ⟨b, o, none⟩ = some v) : s.val.cell? ⟨b, o, none⟩ = some v :=
  (s.below.cell (World.block_lt_of_cell? _ _ h)).trans h

/-- An array by value, indexed: its elements are integers. -/
theorem run_index_ints {P : Program} {T E n : Nat} {ik : IntKind} (hT : P.underlying T = some (.array n E)) (hE : P.underlying E = some (.int ik)) (hs : (P.info? E).map (·.size) = some 1)
    (xs : List Value) (hx : xs.length = n) (k : IntKind) (i : Nat) (hi : i < n) (w : World) :
    (Instr.index T (.agg xs.toArray) (.int k i)).run P w = .ok (xs.getD i undef) w := by
  obtain ⟨inf, h1, h2⟩ : ∃ inf, P.info? E = some inf ∧ inf.size = 1 := by
    cases h : P.info? E with
    | none => simp [h] at hs
    | some inf => exact ⟨inf, rfl, by simpa [h] using hs⟩
  have hi' : i < xs.length := by omega
  have e : xs[i]? = some xs[i] := List.getElem?_eq_getElem hi'
  rw [List.getD_eq_getElem?_getD, e]
  simp [Instr.index, run_underlying hT, run_underlying hE, isAgg, sizeOf, typeInfo, h1, h2, part, hi, asIntOf, e]
end Go.Proofs.YtmakjfeepmiggaaGreat
