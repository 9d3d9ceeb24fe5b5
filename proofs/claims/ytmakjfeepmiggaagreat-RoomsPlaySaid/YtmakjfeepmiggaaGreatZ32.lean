import Derived.Test.YtmakjfeepmiggaaGreatB2
import Derived.Deep.MidRow
import Derived.Great.BuildSlice
import Derived.Deep.WholeRow
namespace Go.Proofs.YtmakjfeepmiggaaGreat
open Go.RowKit
set_option linter.unusedVariables false
section
variable {P : Program} {ops : Array Oper} {md : Region.Mode} {D : World → Prop}
structure ClosedS (md : Region.Mode) (ops : Array Oper) (s0 seen : Array Bool) : Prop where
  size : seen.size = ops.size
  closed : ∀ j oj, ops[j]? = some oj → seen.getD j false = true → ∀ e ∈ oj.after, Region.binds md e = true → seen.getD e.on false = true
  old : ∀ i, s0.getD i false = true → seen.getD i false = true
theorem ClosedS.set {s0 seen : Array Bool} {i : Nat} (inv : ClosedS md ops s0 seen) (hi : i ∈ Region.ready md ops seen) : ClosedS md ops s0 (seen.setIfInBounds i true) := by
  obtain ⟨_, oi, hoi, hall⟩ := mem_ready.1 hi
  refine ⟨by simp [inv.size], fun j oj hj hl e he hb => ?_, fun k hk => getD_set_true (inv.old k hk)⟩
  by_cases hij : i = j
  · subst hij
    have : oj = oi := Option.some.inj (hj.symm.trans hoi)
    subst this
    exact getD_set_true (hall e he hb)
  · rw [getD_set_ne false hij] at hl
    exact getD_set_true (inv.closed j oj hj hl e he hb)
def closedB (md : Region.Mode) (ops : Array Oper) (seen : Array Bool) : Bool := decide (seen.size = ops.size) && (List.range ops.size).all fun j => !seen.getD j false || (match ops[j]? with | some o => o.after.all fun e => !Region.binds md e || seen.getD e.on false | none => true)
theorem closedB_spec {seen : Array Bool} (h : closedB md ops seen = true) : ClosedS md ops seen seen := by
  simp only [closedB, Bool.and_eq_true, decide_eq_true_eq] at h
  refine ⟨h.1, fun j oj hj hl e he hb => ?_, fun i hi => hi⟩
  have hjs : j < ops.size := (Array.getElem?_eq_some_iff.1 hj).1
  have h1 := List.all_eq_true.1 h.2 j (List.mem_range.2 hjs)
  rw [hl, hj] at h1
  simp only [Bool.not_true, Bool.false_or] at h1
  have h2 := Array.all_eq_true_iff_forall_mem.1 h1 e he
  rw [hb] at h2
  simpa using h2
def sinkS (md : Region.Mode) (ops : Array Oper) (s0 : Array Bool) (n : Nat) : Bool := (List.range n).all fun i => s0.getD i false || (List.range (n + 1)).any fun j => decide (i < j) && Region.waitsFor md ops j i
theorem sinkS_waits {n : Nat} {s0 seen : Array Bool} (hs : sinkS md ops s0 n = true) (hn : n < ops.size) (inv : ClosedS md ops s0 seen) : ∀ (d i : Nat), n - i = d → i < n → seen.getD i true = false → n ∉ Region.ready md ops seen := by
  intro d
  induction d using Nat.strongRecOn with
  | _ d ih =>
    intro i hd hi hun hr
    obtain ⟨_, ot, hot, hall⟩ := mem_ready.1 hr
    have h1 := List.all_eq_true.1 hs i (List.mem_range.2 hi)
    simp only [Bool.or_eq_true] at h1
    rcases h1 with h1 | h1
    · have := inv.old i h1
      rw [getD_both hun] at this; cases this
    obtain ⟨j, hj, hj2⟩ := List.any_eq_true.1 h1
    simp only [Bool.and_eq_true, decide_eq_true_eq] at hj2
    obtain ⟨oj, hoj, e, he, hb, hon⟩ := Region.waitsFor_spec hj2.2
    have hjle : j ≤ n := by have := List.mem_range.1 hj; omega
    by_cases hjt : j = n
    · subst hjt
      have : oj = ot := Option.some.inj (hoj.symm.trans hot)
      subst this
      have h2 := hall e he hb
      rw [hon, getD_both hun] at h2
      cases h2
    · cases hl : seen.getD j false with
      | true =>
        have h2 := inv.closed j oj hoj hl e he hb
        rw [hon, getD_both hun] at h2
        cases h2
      | false =>
        have hjs : j < seen.size := by rw [inv.size]; omega
        exact ih (n - j) (by omega) j rfl (by omega) (getD_in hjs hl) hr
def anyM (P : Program) (md : Region.Mode) (ops : Array Oper) (D : World → Prop) (L : Array Bool → Act → World → Prop) (Q : Exit → Act → World → Prop) : Nat → Array Bool → Act → World → Prop
  | 0, seen, a, w => L seen a w
  | f + 1, seen, a, w => Region.ready md ops seen ≠ [] ∧ ∀ i, i ∈ Region.ready md ops seen → Go.wpOp P ops Q i (fun a' w' => D w' ∧ anyM P md ops D L Q f (seen.setIfInBounds i true) a' w') a w
theorem any_of_M {Q : Exit → Act → World → Prop} {L : Array Bool → Act → World → Prop} {g : Nat} (hL : ∀ seen a w, L seen a w → wpAny P md ops Q g seen a w) (f : Nat) : ∀ (seen : Array Bool) (a : Act) (w : World), anyM P md ops D L Q f seen a w → wpAny P md ops Q (f + g) seen a w := by
  induction f with
  | zero => intro seen a w h; rw [Nat.zero_add]; exact hL _ _ _ h
  | succ f ih =>
    intro seen a w h
    rw [show f + 1 + g = (f + g) + 1 by omega]
    exact ⟨fun h0 => absurd h0 h.1, fun i hi => wpOp_mono (fun a' w' h' => ih _ a' w' h'.2) (h.2 i hi)⟩
theorem anyM_first {Q : Exit → Act → World → Prop} {L : Array Bool → Act → World → Prop} {s0 : Array Bool} {n i : Nat} {oi : Oper} {v : Value} (hi : ops[i]? = some oi) (hsel : ∀ (j : Nat) (o : Oper) cs b, ops[j]? = some o → o.op ≠ .select cs b) (hQ : ∀ c a w, Q (.panic c) (a.put oi.dst v) w → Q (.panic c) a w)
    (hs : sinkS md ops s0 n = true) (hn : n < ops.size) (hin : i < n) (hdone : ∀ seen a w, L seen a w → ∀ j, j ∈ Region.ready md ops seen → j = n) (f : Nat) :
    ∀ (seen : Array Bool) (a : Act) (w : World), ClosedS md ops s0 seen →
      (∀ j oj, ops[j]? = some oj → j ≠ i → seen.getD j true = false → (∀ e, e ∈ oj.after → Region.binds md e = true → e.on ≠ i) → oi.apart ops oj = true) →
      i ∈ Region.ready md ops seen → PureY P ops D oi v a → D w → anyM P md ops D L Q f (seen.setIfInBounds i true) (a.put oi.dst v) w → anyM P md ops D L Q (f + 1) seen a w := by
  induction f with
  | zero =>
    intro seen a w inv _ hr hy hD H
    refine ⟨fun h => by rw [h] at hr; simp at hr, fun j hj => ?_⟩
    by_cases hji : j = i
    · rw [hji]; exact hy.wpOp hi hD ⟨hD, H⟩
    · have hjn := hdone _ _ _ H j (ready_mono hj hji)
      rw [hjn] at hj
      exact absurd hj (sinkS_waits hs hn inv _ i rfl hin (mem_ready.1 hr).1)
  | succ f ih =>
    intro seen a w inv hfree hr hy hD H
    refine ⟨fun h => by rw [h] at hr; simp at hr, fun j hj => ?_⟩
    by_cases hji : j = i
    · rw [hji]; exact hy.wpOp hi hD ⟨hD, H⟩
    have hun : seen.getD i true = false := (mem_ready.1 hr).1
    obtain ⟨hjun, oj, hoj, hall⟩ := mem_ready.1 hj
    have hno : ∀ e, e ∈ oj.after → Region.binds md e = true → e.on ≠ i := by
      intro e he hb heq
      have := hall e he hb
      rw [heq, getD_both hun] at this
      exact absurd this (by simp)
    have st := wpOp_swap hoj (hfree j oj hoj hji hjun hno) (fun cs b => hsel i oi cs b hi) (fun cs b => hsel j oj cs b hoj) hQ hy (H.2 j (ready_mono hj hji))
    refine wpOp_mono (fun a' w' h3 => ⟨h3.2.1, ?_⟩) st
    refine ih _ a' w' (inv.set hj) (fun k ok hk hki hunk hnok => hfree k ok hk hki ?_ hnok) (ready_mono hr (Ne.symm hji)) h3.1 h3.2.1 ?_
    · by_cases hjk : j = k
      · rw [← hjk]; exact hjun
      · rwa [getD_set_ne true hjk] at hunk
    · rw [Array.setIfInBounds_comm _ _ hji]; exact h3.2.2
def tailE (P : Program) (ops : Array Oper) (Q : Exit → Act → World → Prop) : List Nat → Act → World → Prop
  | [], a, w => Q .normal a w
  | i :: r, a, w => Go.wpOp P ops Q i (fun a' w' => tailE P ops Q r a' w') a w
theorem any_of_tailE {Q : Exit → Act → World → Prop} : ∀ (t : List Nat) (seen : Array Bool) (a : Act) (w : World), soloB md ops t seen = true → tailE P ops Q t a w → wpAny P md ops Q t.length seen a w
  | [], _, _, _, hB, h => ⟨by simpa [soloB] using hB, h⟩
  | i :: r, seen, a, w, hB, h => by
    simp only [soloB, Bool.and_eq_true, decide_eq_true_eq] at hB
    refine ⟨fun h1 => (by rw [hB.1] at h1; cases h1), fun j hj => ?_⟩
    rw [hB.1] at hj
    have hji : j = i := by simpa using hj
    subst hji
    exact wpOp_mono (fun a' w' h' => any_of_tailE r _ a' w' hB.2 h') h
def tailM (P : Program) (ops : Array Oper) (D : World → Prop) (Q : Exit → Act → World → Prop) (t2 : List Nat) : List Nat → Act → World → Prop
  | [], a, w => tailE P ops Q t2 a w
  | i :: r, a, w => Go.wpOp P ops Q i (fun a' w' => D w' ∧ tailM P ops D Q t2 r a' w') a w
def solo2B (md : Region.Mode) (ops : Array Oper) (t2 : List Nat) : List Nat → Array Bool → Bool
  | [], seen => soloB md ops t2 seen
  | i :: r, seen => decide (Region.ready md ops seen = [i]) && solo2B md ops t2 r (seen.setIfInBounds i true)
theorem anyM_of_tail {Q : Exit → Act → World → Prop} {t2 : List Nat} : ∀ (t : List Nat) (seen : Array Bool) (a : Act) (w : World), solo2B md ops t2 t seen = true → tailM P ops D Q t2 t a w → anyM P md ops D (fun s a w => soloB md ops t2 s = true ∧ tailE P ops Q t2 a w) Q t.length seen a w
  | [], seen, a, w, hB, h => ⟨by simpa [solo2B] using hB, h⟩
  | i :: r, seen, a, w, hB, h => by
    simp only [solo2B, Bool.and_eq_true, decide_eq_true_eq] at hB
    refine ⟨fun h1 => (by rw [hB.1] at h1; cases h1), fun j hj => ?_⟩
    rw [hB.1] at hj
    have hji : j = i := by simpa using hj
    subst hji
    exact wpOp_mono (fun a' w' h' => ⟨h'.1, anyM_of_tail r _ a' w' hB.2 h'.2⟩) h
def mixB (md : Region.Mode) (ops : Array Oper) (n : Nat) (t1 t2 : List Nat) : List Nat → Array Bool → Bool
  | [], seen => solo2B md ops t2 t1 seen
  | i :: p, seen => decide (i < n) && (Region.ready md ops seen).contains i && Region.free md ops seen i && (match ops[i]? with | some o => plainOp o.op | none => false) && mixB md ops n t1 t2 p (seen.setIfInBounds i true)
theorem anyM_of_mix {Q : Exit → Act → World → Prop} {s0 : Array Bool} {n : Nat} {t2 : List Nat} (hsel : Region.noSelect ops = true) (hQ : ∀ c (d : Option Nat) v a w, Q (.panic c) (a.put d v) w → Q (.panic c) a w) (hs : sinkS md ops s0 n = true) (hn : n < ops.size) (t1 : List Nat) (w : World) (hD : D w) :
    ∀ (p : List Nat) (seen : Array Bool) (a : Act), ClosedS md ops s0 seen → mixB md ops n t1 (n :: t2) p seen = true → wpQuiet P ops D (fun a' => tailM P ops D Q (n :: t2) t1 a' w) (pickL ops.toList p) a → anyM P md ops D (fun s a w => soloB md ops (n :: t2) s = true ∧ tailE P ops Q (n :: t2) a w) Q (p.length + t1.length) seen a w
  | [], seen, a, inv, hB, h => by simpa using anyM_of_tail t1 seen a w hB h
  | i :: p, seen, a, inv, hB, h => by
    simp only [mixB, Bool.and_eq_true, decide_eq_true_eq] at hB
    obtain ⟨⟨⟨⟨hin, hr⟩, hf⟩, hp⟩, hB'⟩ := hB
    cases ho : ops[i]? with
    | none => rw [ho] at hp; cases hp
    | some o =>
      rw [ho] at hp
      have hd : (ops.toList.drop i).take 1 = [o] := drop_one (by rw [Array.getElem?_toList]; exact ho)
      rw [pickL_cons, hd, List.singleton_append] at h
      have hq : qOp P ops D i (wpQuiet P ops D (fun a' => tailM P ops D Q (n :: t2) t1 a' w) (pickL ops.toList p)) a := by unfold qOp; simp only [ho]; exact h
      obtain ⟨v, hy, hK⟩ := yieldsIn_of_qOp ho hq
      have e : (i :: p).length + t1.length = (p.length + t1.length) + 1 := by simp only [List.length_cons]; omega
      rw [e]
      have hri : i ∈ Region.ready md ops seen := by simpa using hr
      refine anyM_first ho (Region.noSelect_spec hsel) (fun c a w => hQ c _ _ a w) hs hn hin (fun s a w hL j hj => ?_) _ seen a w inv (Region.free_spec ho hf) hri (PureY.of hp hy) hD (anyM_of_mix hsel hQ hs hn t1 w hD p _ _ (inv.set hri) hB' hK)
      have h1 := hL.1
      simp only [soloB, Bool.and_eq_true, decide_eq_true_eq] at h1
      rw [h1.1] at hj
      simpa using hj
theorem any_of_mix {Q : Exit → Act → World → Prop} {a : Act} {w : World} {l : List Oper} {s0 : Array Bool} {f : Nat} (p t1 : List Nat) (n : Nat) (t2 : List Nat) (hsel : Region.noSelect l.toArray = true) (hlen : p.length + t1.length + (n :: t2).length = f) (hc : closedB md l.toArray s0 = true)
    (hs : sinkS md l.toArray s0 n = true) (hn : n < l.toArray.size) (hB : mixB md l.toArray n t1 (n :: t2) p s0 = true) (hQ : ∀ c (d : Option Nat) v a w, Q (.panic c) (a.put d v) w → Q (.panic c) a w) (hD : D w)
    (h : wpQuiet P l.toArray D (fun a' => tailM P l.toArray D Q (n :: t2) t1 a' w) (pickL l p) a) : wpAny P md l.toArray Q f s0 a w := by
  have := any_of_M (P := P) (md := md) (D := D) (Q := Q) (g := (n :: t2).length) (fun seen a w hL => any_of_tailE _ _ _ _ hL.1 hL.2) _ s0 a w (anyM_of_mix hsel hQ hs hn t1 w hD p s0 a (closedB_spec hc) hB h)
  rw [hlen] at this
  exact this
theorem tailE_op {Q : Exit → Act → World → Prop} {i : Nat} {r : List Nat} {o : Oper} {a : Act} {w : World} (hi : ops[i]? = some o) (hg : o.guard = none) (h : Oper.wp P o a w (fun a' w' => tailE P ops Q r a' w') Q) : tailE P ops Q (i :: r) a w := by
  have hw : Region.wanted o (yielded ops a.tmps) = true := by simp [Region.wanted, hg]
  unfold tailE Go.wpOp
  simp only [hi]
  rw [if_pos hw]
  exact .inl h
theorem tailM_op {Q : Exit → Act → World → Prop} {i : Nat} {r t2 : List Nat} {o : Oper} {a : Act} {w : World} (hi : ops[i]? = some o) (hg : o.guard = none) (h : Oper.wp P o a w (fun a' w' => D w' ∧ tailM P ops D Q t2 r a' w') Q) : tailM P ops D Q t2 (i :: r) a w := by
  have hw : Region.wanted o (yielded ops a.tmps) = true := by simp [Region.wanted, hg]
  unfold tailM Go.wpOp
  simp only [hi]
  rw [if_pos hw]
  exact .inl h
end
end Go.Proofs.YtmakjfeepmiggaaGreat