/-
  A region that draws its order, whose operations read, but for some calls that write and that stand in one order: what reads comes first, then the calls one behind the other. One walk serves every order.
-/
import Derived.Test.YtmakjfeepmiggaaGreatRegion
namespace Go.Proofs.YtmakjfeepmiggaaGreat
open Go.RowKit
set_option linter.unusedVariables false
/-- Worlds in which a block holds some cells. -/
structure BoxW (w : World) (q : Nat) (cs : Array Value) (T : TypeId) where
  val : World
  box : val.heap[q]? = some (.cells cs T (0, 0))
instance instBoxW (w : World) (q : Nat) (cs : Array Value) (T : TypeId) : Nonempty (BoxW w q cs T) := ⟨⟨{ w with heap := Array.replicate (q + 1) (.cells cs T (0, 0)) }, by simp⟩⟩
theorem BoxW.cell {w : World} {q : Nat} {cs : Array Value} {T : TypeId} (s : BoxW w q cs T) (o : Nat) : s.val.cell? ⟨q, o, none⟩ = cs[o]? := by
  have := s.box; unfold World.cell?; simp only; rw [this]; rfl
section
variable {P : Program} {ops : Array Oper} {md : Region.Mode} {D : World → Prop}

/-- An operation that neither calls nor writes. -/
def plainOp : Op → Bool
  | .move _ | .assign _ | .load .. | .fieldAddr .. | .indexAddr .. | .convert .. | .binOp .. | .unOp .. | .build .. | .field .. | .index .. => true
  | _ => false
theorem plain_value {ρ : Operand → Value} {o : Oper} (hp : plainOp o.op = true) {w w' : World} {n : Next} (h : (execOp ρ o).run P w = .ok n w') : ∃ v, n = .value v := by
  obtain ⟨dst, op, ty, ps, af, gd⟩ := o
  have key : ∀ (s : Sem Value), (do pure (Next.value (← s)) : Sem Next).run P w = .ok n w' → ∃ v, n = .value v := fun s hs => by
    simp only [Sem.run_bind] at hs
    generalize s.run P w = r at hs
    cases r with
    | ok v w2 => simp [Result.andThen] at hs; exact ⟨v, hs.1.symm⟩
    | halt x w2 => simp [Result.andThen] at hs
  cases op <;> simp only [plainOp, Bool.false_eq_true] at hp <;> first | (exact key _ h) | (simp [execOp] at h; exact ⟨_, h.1.symm⟩)

/-- In state a, in every world of the class, operation o leaves v in its temporary, and the world as it is. -/
def PureY (P : Program) (ops : Array Oper) (D : World → Prop) (o : Oper) (v : Value) (a : Act) : Prop :=
  (Region.wanted o (yielded ops a.tmps) = true ∧ ∀ w, D w → (execOp a.eval o).run P w = .ok (.value v) w) ∨ (Region.wanted o (yielded ops a.tmps) = false ∧ v = undef)
theorem PureY.of {o : Oper} {v : Value} {a : Act} (hp : plainOp o.op = true) (hy : YieldsIn P ops D o v a) : PureY P ops D o v a := by
  rcases hy with ⟨hw, hv⟩ | h
  · refine .inl ⟨hw, fun w hD => ?_⟩
    have h2 := hv w hD
    unfold Oper.quietAt at h2
    cases hr : (execOp a.eval o).run P w with
    | ok n w' =>
      rw [hr] at h2
      obtain ⟨u, rfl⟩ := plain_value hp hr
      simp only [Oper.quietUpon] at h2
      rw [h2.1, h2.2]
    | halt x w' => rw [hr] at h2; simp only [Oper.quietUpon] at h2
  · exact .inr h
theorem PureY.of_same {o : Oper} {v : Value} {a a' : Act} (hy : PureY P ops D o v a) (he : execOp a'.eval o = execOp a.eval o) (hw : Region.wanted o (yielded ops a'.tmps) = Region.wanted o (yielded ops a.tmps)) : PureY P ops D o v a' := by
  unfold PureY at *
  rw [he, hw]
  exact hy
theorem PureY.wpOp {Q : Exit → Act → World → Prop} {i : Nat} {o : Oper} {v : Value} {a : Act} {w : World} (hi : ops[i]? = some o) (hy : PureY P ops D o v a) (hD : D w) {K : Act → World → Prop} (h : K (a.put o.dst v) w) : wpOp P ops Q i K a w := by
  unfold Go.wpOp
  simp only [hi]
  rcases hy with ⟨hw, hv⟩ | ⟨hw, rfl⟩
  · simp only [hw, if_true, Oper.wp, hv w hD, Oper.upon]; exact .inl h
  · simp only [hw, Bool.false_eq_true, if_false]; exact h
/-- Another operation, apart from a reading one: it may come first. -/
theorem wpOp_swap {Q : Exit → Act → World → Prop} {j : Nat} {oi oj : Oper} {v : Value} (hj : ops[j]? = some oj) (hap : oi.apart ops oj = true) (hsi : ∀ cs b, oi.op ≠ .select cs b) (hsj : ∀ cs b, oj.op ≠ .select cs b)
    (hQ : ∀ c a w, Q (.panic c) (a.put oi.dst v) w → Q (.panic c) a w) {K : Act → World → Prop} {a : Act} {w : World} (hy : PureY P ops D oi v a) (h : Go.wpOp P ops Q j K (a.put oi.dst v) w) :
    Go.wpOp P ops Q j (fun a' w' => PureY P ops D oi v a' ∧ K (a'.put oi.dst v) w') a w := by
  obtain ⟨h1, h2, h3⟩ := Oper.apart_spec hap
  have kp : ∀ u, PureY P ops D oi v (a.put oj.dst u) := fun u => hy.of_same (execOp_put oi hsi a oj.dst u h3) (wanted_put oi a oj.dst u h3)
  have kd : ∀ d, PureY P ops D oi v (({ a with defers := d :: a.defers } : Act).put oj.dst undef) := fun d =>
    (show PureY P ops D oi v { a with defers := d :: a.defers } from hy.of_same rfl rfl).of_same (execOp_put oi hsi _ oj.dst _ h3) (wanted_put oi _ oj.dst _ h3)
  unfold Go.wpOp at *
  simp only [hj] at *
  rw [wanted_put oj a oi.dst v h1] at h
  by_cases hw : Region.wanted oj (yielded ops a.tmps) = true
  · rw [if_pos hw] at h ⊢
    rcases h with h | ⟨hasks, hlets⟩
    · left
      unfold Oper.wp at *
      rw [execOp_put oj hsj a oi.dst v h1] at h
      cases hr : (execOp a.eval oj).run P w with
      | halt x w' =>
        rw [hr] at h
        cases x <;> simp only [Oper.upon] at h ⊢
        exact hQ _ _ _ h
      | ok n w' =>
        rw [hr] at h
        cases n <;> simp only [Oper.upon] at h ⊢
        case value u => exact ⟨kp u, by rw [← Act.put_comm a v u h2]; exact h⟩
        case skip => exact ⟨kp _, by rw [← Act.put_comm a v undef h2]; exact h⟩
        case defer d => exact ⟨kd d, by rw [← Act.put_comm _ v undef h2, ← Act.put_defers]; exact h⟩
        case enter f args =>
          refine Calls.mono h fun e w'' he => ?_
          cases e with
          | returned u => exact ⟨kp u, by rw [← Act.put_comm a v u h2]; exact he⟩
          | panicked c => exact hQ _ _ _ he
          | outgrown => exact he
        case row row args => exact Rows.mono h fun u w'' he => ⟨kp u, by rw [← Act.put_comm a v u h2]; exact he⟩
    · right
      exact ⟨by unfold Oper.asks at *; rw [execOp_put oj hsj a oi.dst v h1] at hasks; exact hasks, hlets⟩
  · rw [if_neg hw] at h ⊢
    exact ⟨kp _, by rw [← Act.put_comm a v undef h2]; exact h⟩

/-- Whatever order; behind each operation the class still holds. -/
def anyD (P : Program) (md : Region.Mode) (ops : Array Oper) (D : World → Prop) (Q : Exit → Act → World → Prop) : Nat → Array Bool → Act → World → Prop
  | 0, seen, a, w => Region.ready md ops seen = [] ∧ Q .normal a w
  | f + 1, seen, a, w => (Region.ready md ops seen = [] → Q .normal a w) ∧ ∀ i, i ∈ Region.ready md ops seen → Go.wpOp P ops Q i (fun a' w' => D w' ∧ anyD P md ops D Q f (seen.setIfInBounds i true) a' w') a w
theorem any_of_D {Q : Exit → Act → World → Prop} (f : Nat) : ∀ (seen : Array Bool) (a : Act) (w : World), anyD P md ops D Q f seen a w → wpAny P md ops Q f seen a w := by
  induction f with
  | zero => intro seen a w h; exact h
  | succ f ih => intro seen a w h; exact ⟨h.1, fun i hi => wpOp_mono (fun a' w' h' => ih _ a' w' h'.2) (h.2 i hi)⟩
theorem anyD_first {Q : Exit → Act → World → Prop} {i : Nat} {oi : Oper} {v : Value} (hi : ops[i]? = some oi) (hsel : ∀ (j : Nat) (o : Oper) cs b, ops[j]? = some o → o.op ≠ .select cs b) (hQ : ∀ c a w, Q (.panic c) (a.put oi.dst v) w → Q (.panic c) a w) (f : Nat) :
    ∀ (seen : Array Bool) (a : Act) (w : World),
      (∀ j oj, ops[j]? = some oj → j ≠ i → seen.getD j true = false → (∀ e, e ∈ oj.after → Region.binds md e = true → e.on ≠ i) → oi.apart ops oj = true) →
      i ∈ Region.ready md ops seen → PureY P ops D oi v a → D w → anyD P md ops D Q f (seen.setIfInBounds i true) (a.put oi.dst v) w → anyD P md ops D Q (f + 1) seen a w := by
  induction f with
  | zero =>
    intro seen a w _ hr hy hD H
    refine ⟨fun h => by rw [h] at hr; simp at hr, fun j hj => ?_⟩
    by_cases hji : j = i
    · rw [hji]; exact hy.wpOp hi hD ⟨hD, H⟩
    · have := ready_mono hj hji
      rw [H.1] at this
      simp at this
  | succ f ih =>
    intro seen a w hfree hr hy hD H
    refine ⟨fun h => by rw [h] at hr; simp at hr, fun j hj => ?_⟩
    by_cases hji : j = i
    · rw [hji]; exact hy.wpOp hi hD ⟨hD, H⟩
    have hun : seen.getD i true = false := (mem_ready.1 hr).1
    obtain ⟨hjun, oj, hoj, hall⟩ := mem_ready.1 hj
    have hno : ∀ e, e ∈ oj.after → Region.binds md e = true → e.on ≠ i := by
      intro e he hb heq
      have := hall e he hb
      rw [heq, getD_both hun] at this
      exact absurd this (by simp)
    have st := wpOp_swap hoj (hfree j oj hoj hji hjun hno) (fun cs b => hsel i oi cs b hi) (fun cs b => hsel j oj cs b hoj) hQ hy (H.2 j (ready_mono hj hji))
    refine wpOp_mono (fun a' w' h3 => ⟨h3.2.1, ?_⟩) st
    refine ih _ a' w' (fun k ok hk hki hunk hnok => hfree k ok hk hki ?_ hnok) (ready_mono hr (Ne.symm hji)) h3.1 h3.2.1 ?_
    · by_cases hjk : j = k
      · rw [← hjk]; exact hjun
      · rwa [getD_set_ne true hjk] at hunk
    · rw [Array.setIfInBounds_comm _ _ hji]; exact h3.2.2

/-- The calls, one behind the other; behind each the class still holds. -/
def tailD (P : Program) (ops : Array Oper) (D : World → Prop) (Q : Exit → Act → World → Prop) : List Nat → Act → World → Prop
  | [], a, w => Q .normal a w
  | i :: r, a, w => Go.wpOp P ops Q i (fun a' w' => D w' ∧ tailD P ops D Q r a' w') a w
def soloB (md : Region.Mode) (ops : Array Oper) : List Nat → Array Bool → Bool
  | [], seen => (Region.ready md ops seen).isEmpty
  | i :: r, seen => decide (Region.ready md ops seen = [i]) && soloB md ops r (seen.setIfInBounds i true)
theorem anyD_of_tail {Q : Exit → Act → World → Prop} : ∀ (t : List Nat) (seen : Array Bool) (a : Act) (w : World), soloB md ops t seen = true → tailD P ops D Q t a w → anyD P md ops D Q t.length seen a w
  | [], _, _, _, hB, h => ⟨by simpa [soloB] using hB, h⟩
  | i :: r, seen, a, w, hB, h => by
    simp only [soloB, Bool.and_eq_true, decide_eq_true_eq] at hB
    refine ⟨fun h1 => (by rw [hB.1] at h1; cases h1), fun j hj => ?_⟩
    rw [hB.1] at hj
    have hji : j = i := by simpa using hj
    subst hji
    exact wpOp_mono (fun a' w' h' => ⟨h'.1, anyD_of_tail r _ a' w' hB.2 h'.2⟩) h
def frontB (md : Region.Mode) (ops : Array Oper) (t : List Nat) : List Nat → Array Bool → Bool
  | [], seen => soloB md ops t seen
  | i :: p, seen => (Region.ready md ops seen).contains i && Region.free md ops seen i && (match ops[i]? with | some o => plainOp o.op | none => false) && frontB md ops t p (seen.setIfInBounds i true)
def pickL (l : List Oper) : List Nat → List Oper
  | [] => []
  | i :: r => (l.drop i).take 1 ++ pickL l r
theorem pickL_cons (l : List Oper) (i : Nat) (r : List Nat) : pickL l (i :: r) = (l.drop i).take 1 ++ pickL l r := rfl
theorem pickL_nil (l : List Oper) : pickL l [] = [] := rfl
theorem drop_one {l : List Oper} {i : Nat} {o : Oper} (h : l[i]? = some o) : (l.drop i).take 1 = [o] := by
  have hi : i < l.length := (List.getElem?_eq_some_iff.1 h).1
  rw [List.drop_eq_getElem_cons hi]
  simp [(List.getElem?_eq_some_iff.1 h).2]
theorem anyD_of_front {Q : Exit → Act → World → Prop} (hsel : Region.noSelect ops = true) (hQ : ∀ c (d : Option Nat) v a w, Q (.panic c) (a.put d v) w → Q (.panic c) a w) (t : List Nat) (w : World) (hD : D w) :
    ∀ (p : List Nat) (seen : Array Bool) (a : Act), frontB md ops t p seen = true → wpQuiet P ops D (fun a' => tailD P ops D Q t a' w) (pickL ops.toList p) a → anyD P md ops D Q (p.length + t.length) seen a w
  | [], seen, a, hB, h => by simpa using anyD_of_tail t seen a w hB h
  | i :: p, seen, a, hB, h => by
    simp only [frontB, Bool.and_eq_true] at hB
    obtain ⟨⟨⟨hr, hf⟩, hp⟩, hB'⟩ := hB
    cases ho : ops[i]? with
    | none => rw [ho] at hp; cases hp
    | some o =>
      rw [ho] at hp
      have hd : (ops.toList.drop i).take 1 = [o] := drop_one (by rw [Array.getElem?_toList]; exact ho)
      rw [pickL_cons, hd, List.singleton_append] at h
      have hq : qOp P ops D i (wpQuiet P ops D (fun a' => tailD P ops D Q t a' w) (pickL ops.toList p)) a := by unfold qOp; simp only [ho]; exact h
      obtain ⟨v, hy, hK⟩ := yieldsIn_of_qOp ho hq
      have e : (i :: p).length + t.length = (p.length + t.length) + 1 := by simp only [List.length_cons]; omega
      rw [e]
      exact anyD_first ho (Region.noSelect_spec hsel) (fun c a w => hQ c _ _ a w) _ seen a w (Region.free_spec ho hf) (by simpa using hr) (PureY.of hp hy) hD (anyD_of_front hsel hQ t w hD p _ _ hB' hK)
theorem tailD_call {Q : Exit → Act → World → Prop} {i : Nat} {r : List Nat} {o : Oper} {a : Act} {w : World} (hi : ops[i]? = some o) (hg : o.guard = none) (f : FuncId) (args : Array Value) (hrun : (execOp a.eval o).run P w = .ok (.enter f args) w)
    (h : Calls P f args w fun e w' => ∃ v, e = .returned v ∧ D w' ∧ tailD P ops D Q r (a.put o.dst v) w') : tailD P ops D Q (i :: r) a w := by
  have hw : Region.wanted o (yielded ops a.tmps) = true := by simp [Region.wanted, hg]
  unfold tailD Go.wpOp
  simp only [hi]
  rw [if_pos hw]
  left
  unfold Oper.wp
  rw [hrun]
  simp only [Oper.upon]
  refine h.mono fun e w' ⟨v, he, hD, ht⟩ => ?_
  subst he
  exact ⟨hD, ht⟩
theorem tailD_value {Q : Exit → Act → World → Prop} {i : Nat} {r : List Nat} {o : Oper} {a : Act} {w : World} {v : Value} (hi : ops[i]? = some o) (hg : o.guard = none) (hD : D w) (hrun : (execOp a.eval o).run P w = .ok (.value v) w)
    (h : tailD P ops D Q r (a.put o.dst v) w) : tailD P ops D Q (i :: r) a w := by
  have hw : Region.wanted o (yielded ops a.tmps) = true := by simp [Region.wanted, hg]
  unfold tailD Go.wpOp
  simp only [hi]
  rw [if_pos hw]
  left
  unfold Oper.wp
  rw [hrun]
  simp only [Oper.upon]
  exact ⟨hD, h⟩
theorem wp_region_front {id : Nat} {Q : Exit → Act → World → Prop} {a : Act} {w : World} {l : List Oper} (p t : List Nat) (hm : P.follows .mixedOrders = true) (hsel : Region.noSelect l.toArray = true) (hlen : p.length + t.length = l.toArray.size)
    (hB : frontB .any l.toArray t p (Array.replicate l.toArray.size false) = true) (hQ : ∀ c (d : Option Nat) v a w, Q (.panic c) (a.put d v) w → Q (.panic c) a w) (hD : D w.drew)
    (h : wpQuiet P l.toArray D (fun a' => tailD P l.toArray D Q t a' w.drew) (pickL l p) a) : (Code.region id l.toArray true).wp P Q a w := by
  refine wp_region_any hm ?_
  have := any_of_D _ _ _ _ (anyD_of_front hsel hQ t w.drew hD p _ a hB h)
  rw [hlen] at this
  exact this
end
end Go.Proofs.YtmakjfeepmiggaaGreat
