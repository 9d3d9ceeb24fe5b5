/-
  A map from signed integers to integers that a call made: what it says at each key.
-/
import Derived.Test.YtmagpbbjjkmbpaaMapPtr
import Derived.Maps.Own
import Derived.Maps.RangeWalk
namespace Go.Proofs.Ytmagpbbjjkmbpaa
open Go.RowKit Go.Maps
set_option linter.unusedVariables false

def kJ (a : Int) : Lit := .int .i64 a
theorem kJ_key (a : Int) : WideAt.IsKeyLit (kJ a) := trivial
/-- Block m is a map of at most n entries; at key a it says f a (0 where it has none). -/
def MapJ (w : World) (K E : TypeId) (q : IntKind) (m n : Nat) (f : Int → Int) : Prop :=
  ∃ D : DataW Unit, w.ownsMap Try.prog K (plainElem Try.prog E) m n D ∧ ∀ a, D.atKey (kJ a) (.lit (.int q 0)) = .lit (.int q (f a))
section
variable {w w' : World} {K E t : TypeId} {q : IntKind} {m n : Nat} {f : Int → Int}
theorem MapJ.made (w : World) (K E : TypeId) (q : IntKind) : MapJ (w.alloc (.map #[] 0)) K E q w.heap.size 0 fun _ => 0 := ⟨.map [], World.ownsMap_made w _ _ _, fun a => rfl⟩
theorem MapJ.lt (h : MapJ w K E q m n f) : m < w.heap.size := by obtain ⟨D, h, _⟩ := h; exact h.lt
theorem MapJ.keep (h : MapJ w K E q m n f) (hk : w'.heap[m]? = w.heap[m]?) : MapJ w' K E q m n f := by
  obtain ⟨D, ⟨es, clock, hb, r⟩, hf⟩ := h
  exact ⟨D, ⟨es, clock, hk.trans hb, r⟩, hf⟩
theorem MapJ.below (h : MapJ w K E q m n f) (hb : Below w.heap.size w w') : MapJ w' K E q m n f := h.keep (hb.block _ h.lt)
theorem MapJ.look (h : MapJ w K E q m n f) (hK : Try.prog.underlying K = some (.int .i64)) (hE : Try.prog.underlying E = some (.int q)) (hz : (zeroValue E).run Try.prog w = .ok (.int q 0) w) (ht : Try.prog.underlying t = some (.map K E)) {a : Int} (ha : (Lit.int .i64 a).wf = true) :
    (Instr.lookup t (.map (some m)) (.int .i64 a) false).run Try.prog w = .ok (.int q (f a)) w ∧ (Lit.int q (f a)).wf = true := by
  obtain ⟨D, h, hf⟩ := h
  obtain ⟨c, hr, hat, hw⟩ := h.lookup_int (int_keyed hK) ht hE hz (keyOf_int_mk hK ha)
  have := hat.symm.trans (hf a)
  simp only [DataW.lit.injEq, Lit.int.injEq, true_and] at this
  subst this
  exact ⟨hr, hw⟩
theorem MapJ.put (h : MapJ w K E q m n f) (hK : Try.prog.underlying K = some (.int .i64)) (hE : Try.prog.underlying E = some (.int q)) (ht : Try.prog.underlying t = some (.map K E)) {a v : Int} (ha : (Lit.int .i64 a).wf = true) (hv : (Lit.int q v).wf = true) (hn : n < maxLen) :
    ∃ w', (Instr.mapUpdate t (.map (some m)) (.int .i64 a) (.int q v)).run Try.prog w = .ok () w' ∧ MapJ w' K E q m (n + 1) (upd f a v) ∧ w.grownBy w' (some m) := by
  obtain ⟨D, h, hf⟩ := h
  obtain ⟨w', hr, ho, hg⟩ := h.update (int_keyed hK) ht hn (keyOf_int_mk hK ha) (plainElem_int hE hv)
  refine ⟨w', hr, ⟨_, ho, fun x => ?_⟩, hg⟩
  by_cases hx : x = a
  · subst hx
    rw [upd_same]; exact atKey_put_same h.isMap (kJ_key x) _ _
  · have hne : kJ x ≠ kJ a := fun c => hx (by simpa [kJ] using c)
    have e := atKey_put_other (D := D) (d := .lit (.int q v)) (z := .lit (.int q 0)) hne
    rw [upd_other _ hx]
    exact e.trans (hf x)
end
/-- 'm[a] = v' at the operation. -/
theorem wpList_putj {w : World} {K E t : TypeId} {q : IntKind} {b n : Nat} {f : Int → Int} {ops : Array Oper} {rest : List Oper} {o : Oper} {a : Act} {Q : Exit → Act → World → Prop} (hg : o.guard = none) (m x v : Operand) (hop : o.op = Op.mapUpdate t m x v)
    (hM : MapJ w K E q b n f) (hK : Try.prog.underlying K = some (.int .i64)) (hE : Try.prog.underlying E = some (.int q)) (ht : Try.prog.underlying t = some (.map K E)) (hm : a.eval m = .map (some b)) (hn : n < maxLen) (k u : Int) (hx : a.eval x = .int .i64 k) (hv : a.eval v = .int q u) (hk : (Lit.int .i64 k).wf = true) (hu : (Lit.int q u).wf = true)
    (hC : ∀ w', MapJ w' K E q b (n + 1) (upd f k u) → w.grownBy w' (some b) → wpList Try.prog ops Q rest (a.put o.dst undef) w') :
    wpList Try.prog ops Q (o :: rest) a w := by
  refine wpList_plain hg fun K' hK' => ?_
  obtain ⟨w', hrun, r1, r2⟩ := hM.put hK hE ht hk hu hn
  unfold Oper.wp
  simp [execOp, hop, hm, hx, hv, hrun, Result.andThen]
  exact hK' _ _ (hC w' r1 r2)
theorem look_j {w : World} {K E t : TypeId} {q : IntKind} {m n : Nat} {f : Int → Int} (h : MapJ w K E q m n f) (hK : Try.prog.underlying K = some (.int .i64)) (hE : Try.prog.underlying E = some (.int q)) (hz : (zeroValue E).run Try.prog w = .ok (.int q 0) w) (ht : Try.prog.underlying t = some (.map K E)) {a v : Int} (ha : (Lit.int .i64 a).wf = true) (hv : f a = v) :
    (Instr.lookup t (.map (some m)) (.int .i64 a) false).run Try.prog w = .ok (.int q v) w := by
  have := (h.look hK hE hz ht ha).1
  rwa [hv] at this
end Go.Proofs.Ytmagpbbjjkmbpaa
