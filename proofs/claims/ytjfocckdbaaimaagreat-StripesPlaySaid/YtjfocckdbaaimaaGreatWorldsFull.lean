/-
  WorldsFull.
-/
import Derived.Test.YtjfocckdbaaimaaGreatWorldLives
import Derived.Test.YtjfocckdbaaimaaGreatOpen
namespace Go.Proofs.YtjfocckdbaaimaaGreat
open Go.RowKit Go.Maps
set_option linter.unusedVariables false

theorem okWide_struct {P : Program} {w : World} {r : Reach} {base : Nat} {t : TypeId} {fs : Array Field} {v : Value} (ht : P.underlying t = some (.struct fs)) (h : Value.okWide P w r base t v) : ∃ cs : Array Value, v = .agg cs := by
  simp only [Value.okWide, ht] at h
  obtain ⟨cs, h1, _⟩ := h
  exact ⟨cs, h1⟩
theorem leaves_conf : leaves Tryz.prog 4 23 = some [.int .i64, .int .i64, .int .i64, .int .i64, .int .i64] := by kernel_rfl
set_option maxRecDepth 10000 in
theorem conf_of {H : Type} {enc : TypeId × Value → H} {w : World} {base b2 n : Nat} {spare : Nat → Bool} {held : Bool} {v : Value} {d : DataW H} {p : List MemPlace} (k : DataW.Trod enc Tryz.prog w base spare held 23 v d p)
    (o : Value.okWide Tryz.prog w .any b2 23 v) : ∃ c : Conf, v = .agg #[.int .i64 c.bits, .int .i64 c.budget, .int .i64 c.tries, .int .i64 c.quantum, .int .i64 c.way] ∧ c.wf := by
  obtain ⟨cs, rfl⟩ := okWide_struct Tryz.underlying23 o
  have h := opened leaves_conf k
  obtain ⟨c0, r, e0, g0, h⟩ := allHold_cons h
  obtain ⟨c1, r, rfl, g1, h⟩ := allHold_cons h
  obtain ⟨c2, r, rfl, g2, h⟩ := allHold_cons h
  obtain ⟨c3, r, rfl, g3, h⟩ := allHold_cons h
  obtain ⟨c4, r, rfl, g4, h⟩ := allHold_cons h
  obtain rfl := allHold_nil h
  obtain ⟨z0, rfl, h0⟩ := holds_int g0
  obtain ⟨z1, rfl, h1⟩ := holds_int g1
  obtain ⟨z2, rfl, h2⟩ := holds_int g2
  obtain ⟨z3, rfl, h3⟩ := holds_int g3
  obtain ⟨z4, rfl, h4⟩ := holds_int g4
  obtain rfl : cs = #[.int .i64 z0, .int .i64 z1, .int .i64 z2, .int .i64 z3, .int .i64 z4] := by
    have : cs.toList = _ := e0
    rw [← Array.toArray_toList (xs := cs), this]
  exact ⟨⟨z0, z1, z2, z3, z4⟩, rfl, h0, h1, h2, h3, h4⟩

end Go.Proofs.YtjfocckdbaaimaaGreat
