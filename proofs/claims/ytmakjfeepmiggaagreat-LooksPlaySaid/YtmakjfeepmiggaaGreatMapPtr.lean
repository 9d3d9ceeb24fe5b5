/-
  A map of pointers to blocks of one cell's kind, keyed by an integer: what its block is good for, as a function from keys to blocks.
-/
import Derived.Test.YtmakjfeepmiggaaGreatLib
import Derived.Maps.OwnSet
import Derived.Maps.Views
namespace Go.Proofs.YtmakjfeepmiggaaGreat
open Go.RowKit Go.Maps
set_option linter.unusedVariables false

/-- A function that says v at a. -/
def upd {α : Type} (f : Int → α) (a : Int) (v : α) : Int → α := fun x => if x = a then v else f x
theorem upd_same {α : Type} (f : Int → α) (a : Int) (v : α) : upd f a v a = v := by simp [upd]
theorem upd_other {α : Type} (f : Int → α) {a x : Int} (h : x ≠ a) (v : α) : upd f a v x = f x := by simp [upd, h]
def kA (a : Int) : Lit := .int .u64 a
def pD : Option Nat → DataW Unit
  | none => .lit (.int .i64 (-1))
  | some p => .lit (.int .i64 p)
def ptrV (o : Option Nat) : Value := .pointer (o.map fun p => ⟨p, 0, none⟩)
def ptrR (v : Value) : Option (DataW Unit × List MemPlace) :=
  match v with
  | .pointer none => some (pD none, [])
  | .pointer (some a) => if a.off = 0 ∧ a.spot = none then some (pD (some a.block), []) else none
  | _ => none
theorem ptrR_mk (o : Option Nat) : ptrR (ptrV o) = some (pD o, []) := by cases o <;> simp [ptrR, ptrV]
theorem ptrR_inv {v : Value} {z : DataW Unit × List MemPlace} (h : ptrR v = some z) : ∃ o, v = ptrV o ∧ z = (pD o, []) := by
  unfold ptrR at h
  split at h
  · cases h; exact ⟨none, rfl, rfl⟩
  · rename_i a
    split at h
    · rename_i hc
      cases h
      obtain ⟨b, o, s⟩ := a
      obtain ⟨h1, h2⟩ := hc
      simp only at h1 h2
      subst h1; subst h2
      exact ⟨some b, rfl, rfl⟩
    · cases h
  · cases h
theorem pD_inj {o o' : Option Nat} (h : pD o = pD o') : o = o' := by
  cases o <;> cases o' <;> simp [pD] at h ⊢ <;> omega
theorem kA_key (a : Int) : WideAt.IsKeyLit (kA a) := trivial

/-- Block m is a map of at most n entries; at key a it has the pointer to block (f a), or none. -/
def MapP (w : World) (m n : Nat) (f : Int → Option Nat) : Prop :=
  ∃ D, w.ownsMap Tryz.prog 39 ptrR m n D ∧ (∀ a, D.atKey (kA a) (pD none) = pD (f a)) ∧ ∀ a, Maps.has D (kA a) = (f a).isSome

theorem addr_keyed : Keyed Tryz.prog 39 := int_keyed Tryz.underlying39
theorem addr_key {a : Int} (ha : (Lit.int .u64 a).wf = true) : keyOf Tryz.prog 39 (.int .u64 a) = some (kA a) := keyOf_int_mk Tryz.underlying39 ha
theorem zero_ptr (w : World) : (zeroValue 233).run Tryz.prog w = .ok (.pointer none) w := by kernel_rfl

theorem MapP.lt {w : World} {m n : Nat} {f : Int → Option Nat} (h : MapP w m n f) : m < w.heap.size := by obtain ⟨D, h, _⟩ := h; exact h.lt
theorem MapP.keep {w w' : World} {m n : Nat} {f : Int → Option Nat} (h : MapP w m n f) (hk : w'.heap[m]? = w.heap[m]?) : MapP w' m n f := by
  obtain ⟨D, ⟨es, clock, hb, r⟩, hf⟩ := h
  exact ⟨D, ⟨es, clock, hk.trans hb, r⟩, hf⟩
theorem MapP.mono {w : World} {m n n' : Nat} {f : Int → Option Nat} (h : MapP w m n f) (hn : n ≤ n') : MapP w m n' f := by
  obtain ⟨D, h, hf⟩ := h
  exact ⟨D, h.mono hn, hf⟩
theorem MapP.made (w : World) : MapP (w.alloc (.map #[] 0)) w.heap.size 0 fun _ => none :=
  ⟨.map [], World.ownsMap_made w _ _ _, fun a => rfl, fun a => rfl⟩
theorem MapP.look {w : World} {m n : Nat} {f : Int → Option Nat} (h : MapP w m n f) {a : Int} (ha : (Lit.int .u64 a).wf = true) :
    (Instr.lookup 237 (.map (some m)) (.int .u64 a) false).run Tryz.prog w = .ok (ptrV (f a)) w := by
  obtain ⟨D, h, hf, _⟩ := h
  obtain ⟨v, ps, hr, hv⟩ := h.lookup addr_keyed Tryz.underlying237 (zero_ptr w) (ptrR_mk none) (addr_key ha)
  obtain ⟨o, rfl, ho⟩ := ptrR_inv hv
  have : pD o = pD (f a) := by
    have h1 := congrArg Prod.fst ho
    simp only at h1
    rw [← h1]; exact hf a
  rw [pD_inj this] at hr
  exact hr
theorem look_none (w : World) {a : Int} (ha : (Lit.int .u64 a).wf = true) :
    (Instr.lookup 237 (.map none) (.int .u64 a) false).run Tryz.prog w = .ok (.pointer none) w := by
  have := Maps.look_nil (w := w) false addr_keyed Tryz.underlying237 (zero_ptr w) (addr_key ha)
  simpa using this
theorem MapP.put {w : World} {m n : Nat} {f : Int → Option Nat} (h : MapP w m n f) {a : Int} (ha : (Lit.int .u64 a).wf = true) (p : Nat) (hn : n < maxLen) :
    ∃ w', (Instr.mapUpdate 237 (.map (some m)) (.int .u64 a) (.pointer (some ⟨p, 0, none⟩))).run Tryz.prog w = .ok () w' ∧
      MapP w' m (n + 1) (upd f a (some p)) ∧ w.grownBy w' (some m) := by
  obtain ⟨D, h, hf, hh⟩ := h
  obtain ⟨w', hr, ho, hg⟩ := h.update addr_keyed Tryz.underlying237 hn (addr_key ha) (ptrR_mk (some p))
  refine ⟨w', hr, ⟨_, ho, fun x => ?_, fun x => ?_⟩, hg⟩
  · by_cases hx : x = a
    · subst hx
      simp [upd, atKey_put_same h.isMap (kA_key x)]
    · have hne : kA x ≠ kA a := fun c => hx (by simpa [kA] using c)
      rw [atKey_put_other hne]; simpa [upd, hx] using hf x
  · by_cases hx : x = a
    · subst hx
      simp [upd, has_put_same h.isMap (kA_key x)]
    · have hne : kA x ≠ kA a := fun c => hx (by simpa [kA] using c)
      rw [has_put_other hne]; simpa [upd, hx] using hh x
/-- 'm[a] = p' at the operation. -/
theorem wpList_put {w : World} {ops : Array Oper} {rest : List Oper} {o : Oper} {a : Act} {Q : Exit → Act → World → Prop} (hg : o.guard = none) (m x v : Operand) (hop : o.op = Op.mapUpdate 237 m x v)
    (b n : Nat) (f : Int → Option Nat) (hm : a.eval m = .map (some b)) (hM : MapP w b n f) (hn : n < maxLen) (k : Int) (p : Nat) (hx : a.eval x = .int .u64 k) (hv : a.eval v = .pointer (some ⟨p, 0, none⟩)) (hk : (Lit.int .u64 k).wf = true)
    (hK : ∀ w', MapP w' b (n + 1) (upd f k (some p)) → w.grownBy w' (some b) → wpList Tryz.prog ops Q rest (a.put o.dst undef) w') :
    wpList Tryz.prog ops Q (o :: rest) a w := by
  refine wpList_plain hg fun K' hK' => ?_
  obtain ⟨w', hrun, r1, r2⟩ := hM.put hk p hn
  unfold Oper.wp
  simp [execOp, hop, hm, hx, hv, hrun, Result.andThen]
  exact hK' _ _ (hK w' r1 r2)
end Go.Proofs.YtmakjfeepmiggaaGreat
