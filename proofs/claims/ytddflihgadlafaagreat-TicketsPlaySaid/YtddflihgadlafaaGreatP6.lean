/-
  Texts of this prover, merged: TActs, TicketsTps, TicketsPlay.
-/
import Derived.Test.YtddflihgadlafaaGreatOpen
import Derived.Test.YtddflihgadlafaaGreatP4
import Derived.Test.YtddflihgadlafaaGreatP5
import Derived.Test.YtddflihgadlafaaGreatP1
import Derived.Deep.DeepCutAuto
import Derived.Deep.CutBlock
/-
  A list of a ticket's acts that came in.
-/
namespace Go.Proofs.YtddflihgadlafaaGreat
open Go.RowKit Go.Maps
set_option linter.unusedVariables false

structure TAc where
  k : Int
  a : Int
  v : Int
  i : Int
def TAc.cells (x : TAc) : List Value := [.int .u8 x.k, .int .u8 x.a, .int .u64 x.v, .int .u64 x.i]
structure TAc.wf (x : TAc) : Prop where
  k : (Lit.int .u8 x.k).wf = true
  a : (Lit.int .u8 x.a).wf = true
  v : (Lit.int .u64 x.v).wf = true
  i : (Lit.int .u64 x.i).wf = true
def tacLeaves : List Leaf := [.int .u8, .int .u8, .int .u64, .int .u64]
theorem tac_of {w : World} {cs : List Value} (h : Leaf.allHold w tacLeaves cs) : ∃ x : TAc, cs = x.cells ∧ x.wf := by
  obtain ⟨c0, r, rfl, g0, h⟩ := allHold_cons h
  obtain ⟨c1, r, rfl, g1, h⟩ := allHold_cons h
  obtain ⟨c2, r, rfl, g2, h⟩ := allHold_cons h
  obtain ⟨c3, r, rfl, g3, h⟩ := allHold_cons h
  obtain rfl := allHold_nil h
  obtain ⟨n0, rfl, w0⟩ := holds_int g0
  obtain ⟨n1, rfl, w1⟩ := holds_int g1
  obtain ⟨n2, rfl, w2⟩ := holds_int g2
  obtain ⟨n3, rfl, w3⟩ := holds_int g3
  exact ⟨⟨n0, n1, n2, n3⟩, rfl, w0, w1, w2, w3⟩
/-- Accesses that may be read. -/
structure TActs (w : World) (a : Option Addr) (cap : Nat) (l : List TAc) : Prop where
  le : l.length ≤ cap
  most : cap ≤ maxLen
  nil : a = none → cap = 0
  wf : ∀ x ∈ l, x.wf
  cell : l = [] ∨ ∃ b off, a = some ⟨b, off, none⟩ ∧ ∀ i, (hi : i < l.length) → ∀ j, j < 4 → w.cell? ⟨b, off + (i * 4 + j), none⟩ = (l[i]).cells[j]?
theorem tacts_of {w : World} {a : Option Addr} {n cap : Nat} (h : Leaf.holds w (.sl tacLeaves) (.slice a n cap)) : ∃ l, l.length = n ∧ TActs w a cap l := by
  obtain ⟨l, a', cap', hv, h1, h2, h3, h4, h5⟩ := recs_of h
  simp only [Value.slice.injEq] at hv
  obtain ⟨rfl, rfl, rfl⟩ := hv
  obtain ⟨m, hm, hp⟩ := list_of (fun i (x : TAc) => l[i]? = some x.cells ∧ x.wf) l.length (fun i hi => by
    obtain ⟨x, hx, hw⟩ := tac_of (h4 _ (List.getElem_mem hi))
    exact ⟨x, by rw [List.getElem?_eq_getElem hi, hx], hw⟩)
  refine ⟨m, hm, by omega, h2, h3, fun x hx => ?_, ?_⟩
  · obtain ⟨i, hi, rfl⟩ := List.mem_iff_getElem.1 hx
    exact (hp i hi).2
  · rcases h5 with rfl | ⟨b, off, rfl, h5⟩
    · left; simpa using hm
    · refine .inr ⟨b, off, rfl, fun i hi j hj => ?_⟩
      have h6 := h5 i (by omega) j hj
      have h7 := (hp i hi).1
      rw [List.getElem?_eq_getElem (by omega)] at h7
      simp only [Option.some.injEq] at h7
      rw [h7] at h6
      exact h6
theorem TActs.at {w : World} {a : Option Addr} {cap : Nat} {l : List TAc} (h : TActs w a cap l) (i : Nat) (hi : i < l.length) :
    ∃ b off x, a = some ⟨b, off, none⟩ ∧ l[i]? = some x ∧ x.wf ∧ w.cell? ⟨b, off + i * 4, none⟩ = some (.int .u8 x.k) ∧ w.cell? ⟨b, off + i * 4 + 1, none⟩ = some (.int .u8 x.a) ∧ w.cell? ⟨b, off + i * 4 + 2, none⟩ = some (.int .u64 x.v) ∧
    w.cell? ⟨b, off + i * 4 + 3, none⟩ = some (.int .u64 x.i) := by
  rcases h.cell with rfl | ⟨b, off, rfl, h5⟩
  · simp at hi
  · have h6 := h5 i hi
    refine ⟨b, off, l[i], rfl, List.getElem?_eq_getElem hi, h.wf _ (List.getElem_mem hi), h6 0 (by omega), ?_, ?_, ?_⟩
    · rw [Nat.add_assoc]; exact h6 1 (by omega)
    · rw [Nat.add_assoc]; exact h6 2 (by omega)
    · rw [Nat.add_assoc]; exact h6 3 (by omega)

theorem TActs.below {w w' : World} {a : Option Addr} {cap : Nat} {l : List TAc} (h : TActs w a cap l) (hb : Below w.heap.size w w') : TActs w' a cap l := by
  refine ⟨h.le, h.most, h.nil, h.wf, h.cell.imp id fun ⟨b, off, e, h5⟩ => ⟨b, off, e, fun i hi j hj => ?_⟩⟩
  have h6 := h5 i hi j hj
  obtain ⟨v, hv⟩ : ∃ v, (l[i]).cells[j]? = some v := by
    match j, hj with
    | 0, _ | 1, _ | 2, _ | 3, _ => exact ⟨_, rfl⟩
  rw [hv] at h6 ⊢
  exact (hb.cell (World.block_lt_of_cell? _ _ h6)).trans h6
end Go.Proofs.YtddflihgadlafaaGreat

/-
  TicketsPlay: what stands between two acts.
-/
namespace Go.Proofs.YtddflihgadlafaaGreat
open Go.RowKit Go.Maps
set_option linter.unusedVariables false

def thrs : List Nat := [0, 1, 2, 3, 62, 63]
theorem thrs_lt (k : Nat) : thrs.getD k 0 < 64 := by
  match k with
  | 0 | 1 | 2 | 3 | 4 | 5 => decide
  | k + 6 => simp [thrs]
structure TPS (w0 w : World) (B R : WB) (q th ob : Nat) (p : PS) (m : Nat) (O : Nat → OpS) (P X : Nat → Nat) : Prop where
  pr : Pr w0 w B R p.V p.s p.x
  ok : PSok p m
  nts : p.V.nts = [] ∧ p.V.its.length ≤ 40 ∧ ∀ k, 0 ≤ p.V.tk.getD k 0 ∧ p.V.tk.getD k 0 < 18446744073709551616
  pq : w.heap[q]? = some (.cells #[.pointer (some ⟨B.wb, 0, none⟩), .pointer (some ⟨R.wb, 0, none⟩)] 34 (0, 0))
  thr : w.heap[th]? = some (.cells #[.int .i64 0, .int .i64 1, .int .i64 2, .int .i64 3, .int .i64 62, .int .i64 63] 3 (0, 0))
  ops : ∃ cs : Array Value, w.heap[ob]? = some (.cells cs 63 (0, 0)) ∧ ∀ k, k < 6 → ∀ j, j < 4 → cs[k * 4 + j]? = (opV (P k) (X k) (O k))[j]?
  lo : w0.heap.size ≤ ob
  opp : ∀ k, k < 6 → (O k).ok ∧ OpP w w0.heap.size (thrs.getD k 0) (P k) (O k) ∧ OpR w w0.heap.size (thrs.getD k 0) (X k) (O k)
  dist : ∀ i j, i < 6 → j < 6 → i ≠ j → O i ≠ .none → O j ≠ .none → P i ≠ P j ∧ X i ≠ X j
theorem TPS.below {w0 w w' : World} {B R : WB} {q th ob : Nat} {p : PS} {m : Nat} {O : Nat → OpS} {P X : Nat → Nat} (h : TPS w0 w B R q th ob p m O P X) (hb : Below w.heap.size w w') : TPS w0 w' B R q th ob p m O P X := by
  have k := fun {k : Nat} {o : Obj} (hk : w.heap[k]? = some o) => (hb.block _ (Array.getElem?_eq_some_iff.1 hk).1).trans hk
  obtain ⟨cs, h1, h2⟩ := h.ops
  exact ⟨h.pr.keep hb, h.ok, h.nts, k h.pq, k h.thr, ⟨cs, k h1, h2⟩, h.lo, fun i hi => ⟨(h.opp i hi).1, (h.opp i hi).2.1.below hb, (h.opp i hi).2.2.below hb⟩, h.dist⟩
theorem TPS.thc {w0 w : World} {B R : WB} {q th ob : Nat} {p : PS} {m : Nat} {O : Nat → OpS} {P X : Nat → Nat} (h : TPS w0 w B R q th ob p m O P X) (k : Nat) (hk : k < 6) : w.cell? ⟨th, k, none⟩ = some (.int .i64 ((thrs.getD k 0 : Nat) : Int)) := by
  rw [hcell h.thr k]
  match k, hk with
  | 0, _ | 1, _ | 2, _ | 3, _ | 4, _ | 5, _ => rfl
theorem getD_set_or (l : List Int) (a k : Nat) (v : Int) : (l.set a v).getD k 0 = v ∨ (l.set a v).getD k 0 = l.getD k 0 := by
  rw [List.getD_eq_getElem?_getD, List.getD_eq_getElem?_getD]
  by_cases e : a = k
  · subst e
    by_cases h : a < l.length
    · left; rw [List.getElem?_set_self h]; rfl
    · right; rw [List.set_eq_of_length_le (by omega)]
  · right; rw [List.getElem?_set_ne e]
theorem tk_set {l : List Int} (a : Nat) {v : Int} (h : ∀ k, 0 ≤ l.getD k 0 ∧ l.getD k 0 < 18446744073709551616) (hv : 0 ≤ v ∧ v < 18446744073709551616) (k : Nat) : 0 ≤ (l.set a v).getD k 0 ∧ (l.set a v).getD k 0 < 18446744073709551616 := by
  rcases getD_set_or l a k v with e | e <;> rw [e]
  · exact hv
  · exact h k
theorem wu_lt (x : Int) : 0 ≤ wu x ∧ wu x < 18446744073709551616 := by rw [wu_eq]; omega
theorem next_tk {t : Nat} {p : PS} (o : OpS) (h : ∀ k, 0 ≤ p.V.tk.getD k 0 ∧ p.V.tk.getD k 0 < 18446744073709551616) : ∀ k, 0 ≤ (o.next t p).2.V.tk.getD k 0 ∧ (o.next t p).2.V.tk.getD k 0 < 18446744073709551616 := by
  match o with
  | .none => exact h
  | .take k d 0 => exact h
  | .take k d 1 => exact tk_set t h (wu_lt _)
  | .take k d (n + 2) =>
    by_cases e : p.s.val 1 = k
    · have e1 : ((OpS.take k d (n + 2)).next t p).2 = ⟨{ p.V with tk := p.V.tk.set t 0, hd := t }, p.s.acc 1 1 (p.s.val 1), p.x.acc 1 1 (p.s.val 1)⟩ := by show (if p.s.val 1 = k then _ else _ : OpS × PS).2 = _; rw [if_pos e]
      rw [e1]; exact tk_set t h (by decide)
    · have e1 : ((OpS.take k d (n + 2)).next t p).2 = ⟨p.V, p.s.acc 1 1 (p.s.val 1), p.x.acc 1 1 (p.s.val 1)⟩ := by show (if p.s.val 1 = k then _ else _ : OpS × PS).2 = _; rw [if_neg e]
      rw [e1]; exact h
  | .give 0 => exact h
  | .give (n + 1) => exact h
section
variable {w0 w w' : World} {B R : WB} {q th ob : Nat} {p p' : PS} {m m' : Nat} {O : Nat → OpS} {P X : Nat → Nat}
theorem TPS.le (h : TPS w0 w B R q th ob p m O P X) (hm : m ≤ m') : TPS w0 w B R q th ob p m' O P X :=
  ⟨h.pr, ⟨h.ok.al, ⟨Nat.le_trans h.ok.far.1 hm, Nat.le_trans h.ok.far.2.1 hm, Nat.le_trans h.ok.far.2.2 hm⟩⟩, h.nts, h.pq, h.thr, h.ops, h.lo, h.opp, h.dist⟩
theorem TPS.world (h : TPS w0 w B R q th ob p m O P X) (hp : Pr w0 w' B R p'.V p'.s p'.x) (hk : PSok p' m') (hn : p'.V.nts = [] ∧ p'.V.its.length ≤ 40 ∧ ∀ k, 0 ≤ p'.V.tk.getD k 0 ∧ p'.V.tk.getD k 0 < 18446744073709551616) (hf : Fr wrTy true w w') : TPS w0 w' B R q th ob p' m' O P X := by
  obtain ⟨cs, h1, h2⟩ := h.ops
  refine ⟨hp, hk, hn, hf.cells _ _ _ _ h.pq rfl, hf.cells _ _ _ _ h.thr rfl, ⟨cs, hf.cells _ _ _ _ h1 rfl, h2⟩, h.lo, fun k hk => ?_, h.dist⟩
  obtain ⟨g1, g2, g3⟩ := h.opp k hk
  refine ⟨g1, ?_, ?_⟩
  · cases hO : O k with
    | none => trivial
    | take a b c => rw [hO] at g2; exact ⟨hf.cells _ _ _ _ g2.1 rfl, g2.2⟩
    | give a => rw [hO] at g2; exact ⟨hf.cells _ _ _ _ g2.1 rfl, g2.2⟩
  · cases hO : O k with
    | none => trivial
    | take a b c => rw [hO] at g3; exact ⟨hf.cells _ _ _ _ g3.1 rfl, g3.2⟩
    | give a => rw [hO] at g3; exact ⟨hf.cells _ _ _ _ g3.1 rfl, g3.2⟩
theorem opV_four (pb xb : Nat) (o : OpS) : ∃ c0 c1 c2 c3 : Option Addr, opV pb xb o = [.pointer c0, .pointer c1, .pointer c2, .pointer c3] := by
  cases o <;> exact ⟨_, _, _, _, rfl⟩
theorem TPS.cells (h : TPS w0 w B R q th ob p m O P X) (k : Nat) (hk : k < 6) : ∃ c0 c1 c2 c3 : Option Addr, opV (P k) (X k) (O k) = [.pointer c0, .pointer c1, .pointer c2, .pointer c3] ∧ w.cell? ⟨ob, k * 4, none⟩ = some (.pointer c0) ∧ w.cell? ⟨ob, k * 4 + 1, none⟩ = some (.pointer c1) ∧ w.cell? ⟨ob, k * 4 + 2, none⟩ = some (.pointer c2) ∧ w.cell? ⟨ob, k * 4 + 3, none⟩ = some (.pointer c3) := by
  obtain ⟨c0, c1, c2, c3, e⟩ := opV_four (P k) (X k) (O k)
  obtain ⟨cs, h1, h2⟩ := h.ops
  refine ⟨c0, c1, c2, c3, e, ?_, ?_, ?_, ?_⟩
  · have := h2 k hk 0 (by omega); rw [e] at this; rw [hcell h1]; exact this
  · have := h2 k hk 1 (by omega); rw [e] at this; rw [hcell h1]; exact this
  · have := h2 k hk 2 (by omega); rw [e] at this; rw [hcell h1]; exact this
  · have := h2 k hk 3 (by omega); rw [e] at this; rw [hcell h1]; exact this
theorem OpP.two {b1 b2 base t b : Nat} {o : OpS} (h : OpP w base t b o) (hf : TwoR b1 b2 w w') (h1 : o ≠ .none → b ≠ b1 ∧ b ≠ b2) : OpP w' base t b o := by
  cases o with
  | none => trivial
  | take k d ln => exact ⟨hf.cells _ _ _ _ h.1 rfl (h1 (by simp)).1 (h1 (by simp)).2, h.2⟩
  | give l => exact ⟨hf.cells _ _ _ _ h.1 rfl (h1 (by simp)).1 (h1 (by simp)).2, h.2⟩
theorem OpR.two {b1 b2 base t b : Nat} {o : OpS} (h : OpR w base t b o) (hf : TwoR b1 b2 w w') (h1 : o ≠ .none → b ≠ b1 ∧ b ≠ b2) : OpR w' base t b o := by
  cases o with
  | none => trivial
  | take k d ln => exact ⟨hf.cells _ _ _ _ h.1 rfl (h1 (by simp)).1 (h1 (by simp)).2, h.2⟩
  | give l => exact ⟨hf.cells _ _ _ _ h.1 rfl (h1 (by simp)).1 (h1 (by simp)).2, h.2⟩
theorem pr_ne {a b base base' t t' : Nat} {o o' : OpS} (h : OpP w base t a o) (h' : OpR w base' t' b o') (hn : o ≠ .none) (hn' : o' ≠ .none) : a ≠ b := by
  obtain ⟨c1, T1, g1, e1⟩ := h.blk hn
  obtain ⟨c2, T2, g2, e2⟩ := h'.blk hn'
  refine blk_ne g1 g2 ?_
  rcases e1 with rfl | rfl <;> rcases e2 with rfl | rfl <;> decide
/-- Behind a step of operation j, that is not none. -/
theorem TPS.step (h : TPS w0 w B R q th ob p m O P X) (j : Nat) (hj : j < 6) (hn : O j ≠ .none) {e : Ending} (hs : StepPost w0 w B R (thrs.getD j 0) (P j) (X j) p (O j) e w') :
    TPS w0 w' B R q th ob ((O j).next (thrs.getD j 0) p).2 (m + 1) (fun k => if k = j then ((O j).next (thrs.getD j 0) p).1 else O k) P X := by
  obtain ⟨-, hp, h1, h2, hf⟩ := hs
  obtain ⟨g1, g2, g3⟩ := h.opp j hj
  obtain ⟨c1, T1, k1, e1⟩ := g2.blk hn
  obtain ⟨c2, T2, k2, e2⟩ := g3.blk hn
  have far : ∀ {k : Nat} {cs : Array Value} {T : TypeId}, w.heap[k]? = some (.cells cs T (0, 0)) → wrTy T = false → T ≠ 190 → T ≠ 195 → T ≠ 193 → T ≠ 197 → w'.heap[k]? = some (.cells cs T (0, 0)) := fun hk hT n1 n2 n3 n4 =>
    hf.cells _ _ _ _ hk hT (blk_ne hk k1 (by rcases e1 with rfl | rfl <;> assumption)) (blk_ne hk k2 (by rcases e2 with rfl | rfl <;> assumption))
  obtain ⟨cs, h3, h4⟩ := h.ops
  have hnx := next_nts (t := thrs.getD j 0) (p := p) (O j)
  have hov : ∀ pb xb, opV pb xb ((O j).next (thrs.getD j 0) p).1 = opV pb xb (O j) := fun pb xb => by
    cases hO : O j with
    | none => rfl
    | take a b c =>
      match c with
      | 0 | 1 => rfl
      | c + 2 =>
        show opV pb xb (if p.s.val 1 = a then _ else _ : OpS × PS).1 = _
        split <;> rfl
    | give a =>
      match a with
      | 0 | a + 1 => rfl
  refine ⟨hp, next_ok h.ok (O j), ⟨by rw [hnx.1]; exact h.nts.1, by rw [hnx.2]; exact h.nts.2.1, next_tk (O j) h.nts.2.2⟩, far h.pq rfl (by decide) (by decide) (by decide) (by decide), far h.thr rfl (by decide) (by decide) (by decide) (by decide),
    ⟨cs, far h3 rfl (by decide) (by decide) (by decide) (by decide), fun k hk i hi => ?_⟩, h.lo, fun k hk => ?_, fun a b ha hb hab na nb => ?_⟩
  · have := h4 k hk i hi
    by_cases e : k = j
    · subst e; simp only [if_true]; rw [hov]; exact this
    · simp only [e, if_false]; exact this
  · by_cases e : k = j
    · subst e; simp only [if_true]; exact ⟨next_isok _ g1, h1, h2⟩
    · simp only [e, if_false]
      obtain ⟨f1, f2, f3⟩ := h.opp k hk
      exact ⟨f1, f2.two hf fun hk2 => ⟨(h.dist k j hk hj e hk2 hn).1, pr_ne f2 g3 hk2 hn⟩, f3.two hf fun hk2 => ⟨(pr_ne g2 f3 hn hk2).symm, (h.dist k j hk hj e hk2 hn).2⟩⟩
  · have ne : ∀ c, (if c = j then ((O j).next (thrs.getD j 0) p).1 else O c) ≠ .none → O c ≠ .none := fun c hc => by
      by_cases e : c = j
      · subst e; exact hn
      · simp only [e, if_false] at hc; exact hc
    exact h.dist a b ha hb hab (ne a na) (ne b nb)
theorem ostep_any (h : TPS w0 w B R q th ob p m O P X) (hm : m + 1 ≤ 90000) (j : Nat) (hj : j < 6) : Calls Tryz.prog 23 #[.agg (opV (P j) (X j) (O j)).toArray, .agg #[.pointer (some ⟨B.wb, 0, none⟩), .pointer (some ⟨R.wb, 0, none⟩)]] w fun e w' =>
    e = .returned (.bool true) ∧ ∃ (p' : PS) (O' : Nat → OpS), TPS w0 w' B R q th ob p' (m + 1) O' P X := by
  obtain ⟨g1, g2, g3⟩ := h.opp j hj
  cases hO : O j with
  | none =>
    refine (ostep_none (t := thrs.getD j 0) (pb := w.heap.size) (xb := w.heap.size) (p := p) h.pr).mono fun e w' hs => ⟨hs.1, p, O, ?_⟩
    obtain ⟨-, hp, -, -, hf⟩ := hs
    have far : ∀ {k : Nat} {cs : Array Value} {T : TypeId}, w.heap[k]? = some (.cells cs T (0, 0)) → wrTy T = false → w'.heap[k]? = some (.cells cs T (0, 0)) := fun hk hT =>
      have := (Array.getElem?_eq_some_iff.1 hk).1
      hf.cells _ _ _ _ hk hT (by omega) (by omega)
    obtain ⟨cs, h3, h4⟩ := h.ops
    have hl := h.le (Nat.le_succ m)
    have nb : ∀ {k : Nat} {cs : Array Value} {T : TypeId}, w.heap[k]? = some (.cells cs T (0, 0)) → k ≠ w.heap.size := fun hk => by have := (Array.getElem?_eq_some_iff.1 hk).1; omega
    refine ⟨hp, hl.ok, h.nts, far h.pq rfl, far h.thr rfl, ⟨cs, far h3 rfl, h4⟩, h.lo, fun k hk => ?_, h.dist⟩
    obtain ⟨f1, f2, f3⟩ := h.opp k hk
    exact ⟨f1, f2.two hf fun hn => by obtain ⟨c, T, g, -⟩ := f2.blk hn; exact ⟨nb g, nb g⟩, f3.two hf fun hn => by obtain ⟨c, T, g, -⟩ := f3.blk hn; exact ⟨nb g, nb g⟩⟩
  | take k d ln =>
    have hn : O j ≠ .none := by rw [hO]; simp
    rw [hO] at g1 g2 g3
    refine (ostep_take h.ok hm (thrs_lt j) g1 h.pr g2 g3).mono fun e w' hs => ⟨hs.1, _, _, h.step j hj hn (by rw [hO]; exact hs)⟩
  | give l =>
    have hn : O j ≠ .none := by rw [hO]; simp
    rw [hO] at g1 g2 g3
    refine (ostep_give h.ok hm g1 h.pr g2 g3).mono fun e w' hs => ⟨hs.1, _, _, h.step j hj hn (by rw [hO]; exact hs)⟩
theorem osame_at (h : TPS w0 w B R q th ob p m O P X) (j : Nat) (hj : j < 6) : Calls Tryz.prog 24 #[.agg (opV (P j) (X j) (O j)).toArray] w fun e w' => e = .returned (.bool true) ∧ Below w.heap.size w w' := by
  obtain ⟨g1, g2, g3⟩ := h.opp j hj
  exact osame_any g1 g2 g3
end
theorem Pr.fr2 {K : TypeId → Bool} {w0 w w' : World} {B R : WB} {V : WV} {s : CS} {x : RS} (h : Pr w0 w B R V s x) (hf : Fr K false w w') (hK : ∀ T, wrTy T = true → K T = false) (hB : Below w0.heap.size w0 w') : Pr w0 w' B R V s x :=
  ⟨h.ws.fr hf (fun T hT => hK T (by unfold wrTy; rw [hT]; rfl)) hB, h.rd.fr hf (fun T hT => hK T (by unfold wrTy; rw [hT]; simp)) hB, h.al⟩
theorem op_wr (T : TypeId) (h : wrTy T = true) : (T == 63) = false := by
  cases hT : (T == 63)
  · rfl
  · rw [beq_iff_eq] at hT; subst hT; cases h
abbrev put4 (w : World) (ob j : Nat) (v0 v1 v2 v3 : Value) : World := (((w.setCell ⟨ob, j * 4, none⟩ v0).setCell ⟨ob, j * 4 + 1, none⟩ v1).setCell ⟨ob, j * 4 + 2, none⟩ v2).setCell ⟨ob, j * 4 + 3, none⟩ v3
theorem put4_at (cs : Array Value) (j : Nat) (v0 v1 v2 v3 : Value) (h : j * 4 + 3 < cs.size) (k i : Nat) (hi : i < 4) : ((((cs.setIfInBounds (j * 4) v0).setIfInBounds (j * 4 + 1) v1).setIfInBounds (j * 4 + 2) v2).setIfInBounds (j * 4 + 3) v3)[k * 4 + i]? = if k = j then [v0, v1, v2, v3][i]? else cs[k * 4 + i]? := by
  simp only [Array.getElem?_setIfInBounds, Array.size_setIfInBounds]
  by_cases e : k = j
  · subst e
    simp only [if_true]
    match i, hi with
    | 0, _ => simp; omega
    | 1, _ => simp; omega
    | 2, _ => simp; omega
    | 3, _ => simp; omega
  · rw [if_neg (by omega), if_neg (by omega), if_neg (by omega), if_neg (by omega), if_neg e]
theorem TPS.put {w0 w wF : World} {B R : WB} {q th ob : Nat} {p : PS} {m : Nat} {O : Nat → OpS} {P X : Nat → Nat} (h : TPS w0 w B R q th ob p m O P X) (hb : Below w.heap.size w wF) (j : Nat) (hj : j < 6) (o : OpS) (tb xb : Nat) (ho : o.ok)
    (hp : OpP wF w0.heap.size (thrs.getD j 0) tb o) (hr : OpR wF w0.heap.size (thrs.getD j 0) xb o) (hf1 : w.heap.size ≤ tb) (hf2 : w.heap.size ≤ xb) (v0 v1 v2 v3 : Value) (hv : opV tb xb o = [v0, v1, v2, v3]) :
    TPS w0 (put4 wF ob j v0 v1 v2 v3) B R q th ob p m (fun k => if k = j then o else O k) (fun k => if k = j then tb else P k) (fun k => if k = j then xb else X k) := by
  have hF := h.below hb
  obtain ⟨cs, h1, h2⟩ := hF.ops
  have hsz : j * 4 + 3 < cs.size := by
    have := h2 j hj 3 (by omega)
    obtain ⟨c0, c1, c2, c3, e⟩ := opV_four (P j) (X j) (O j)
    rw [e] at this
    exact (Array.getElem?_eq_some_iff.1 this).1
  have g1 := setCell_same h1 (j * 4) v0
  have g2 := setCell_same g1 (j * 4 + 1) v1
  have g3 := setCell_same g2 (j * 4 + 2) v2
  have g4 := setCell_same g3 (j * 4 + 3) v3
  have hfr : Fr (fun T => T == 63) false wF (put4 wF ob j v0 v1 v2 v3) := (((set_ty h1 (j * 4) v0).trans (set_ty g1 (j * 4 + 1) v1)).trans (set_ty g2 (j * 4 + 2) v2)).trans (set_ty g3 (j * 4 + 3) v3)
  have b0 := hF.pr.ws.below
  have b1 := set_below b0 b0.size h.lo (j * 4) v0
  have b2 := set_below b1 b1.size h.lo (j * 4 + 1) v1
  have b3 := set_below b2 b2.size h.lo (j * 4 + 2) v2
  have b4 := set_below b3 b3.size h.lo (j * 4 + 3) v3
  have far : ∀ {base t b : Nat} {o : OpS}, OpP wF base t b o → OpP (put4 wF ob j v0 v1 v2 v3) base t b o := fun {base t b o} g => by
    cases o with
    | none => trivial
    | take k d ln => exact ⟨hfr.cells _ _ _ _ g.1 rfl, g.2⟩
    | give l => exact ⟨hfr.cells _ _ _ _ g.1 rfl, g.2⟩
  have far2 : ∀ {base t b : Nat} {o : OpS}, OpR wF base t b o → OpR (put4 wF ob j v0 v1 v2 v3) base t b o := fun {base t b o} g => by
    cases o with
    | none => trivial
    | take k d ln => exact ⟨hfr.cells _ _ _ _ g.1 rfl, g.2⟩
    | give l => exact ⟨hfr.cells _ _ _ _ g.1 rfl, g.2⟩
  refine ⟨hF.pr.fr2 hfr op_wr b4, h.ok, h.nts, hfr.cells _ _ _ _ hF.pq rfl, hfr.cells _ _ _ _ hF.thr rfl, ⟨_, g4, fun k hk i hi => ?_⟩, h.lo, fun k hk => ?_, fun a b ha hb2 hab na nb => ?_⟩
  · rw [put4_at cs j v0 v1 v2 v3 hsz k i hi]
    by_cases e : k = j
    · subst e; simp only [if_true]; rw [hv]
    · simp only [e, if_false]; exact h2 k hk i hi
  · by_cases e : k = j
    · subst e; simp only [if_true]; exact ⟨ho, far hp, far2 hr⟩
    · simp only [e, if_false]
      obtain ⟨f1, f2, f3⟩ := hF.opp k hk
      exact ⟨f1, far f2, far2 f3⟩
  · have old : ∀ c, c < 6 → c ≠ j → O c ≠ .none → P c < w.heap.size ∧ X c < w.heap.size := fun c hc hcj hn => by
      obtain ⟨f1, f2, f3⟩ := h.opp c hc
      obtain ⟨_, _, k1, -⟩ := f2.blk hn
      obtain ⟨_, _, k2, -⟩ := f3.blk hn
      exact ⟨(Array.getElem?_eq_some_iff.1 k1).1, (Array.getElem?_eq_some_iff.1 k2).1⟩
    by_cases ea : a = j
    · subst ea
      have eb : b ≠ a := fun e => hab e.symm
      simp only [eb, if_false] at nb
      have := old b hb2 eb nb
      simp only [if_true, eb, if_false]
      omega
    · simp only [ea, if_false] at na
      have h3 := old a ha ea na
      by_cases eb : b = j
      · subst eb; simp only [if_true, ea, if_false]; omega
      · simp only [eb, if_false] at nb
        simp only [ea, eb, if_false]
        exact h.dist a b ha hb2 hab na nb
/-- Who waits is told alike. -/
theorem waits_alike {v y : Int} (hv : 0 ≤ v ∧ v < 18446744073709551616) (hy : 0 ≤ y ∧ y < 18446744073709551616) : (v != 0 && IntKind.u64.wrap (y + 1) != v) = (v != 0 && y != IntKind.u64.wrap (v - 1)) := by
  by_cases h0 : v = 0
  · subst h0; rfl
  · have e0 : (v != 0) = true := bne_iff_ne.2 h0
    rw [e0, Bool.true_and, Bool.true_and, IntKind.wrap_u64, IntKind.wrap_u64]
    rw [Bool.eq_iff_iff, bne_iff_ne, bne_iff_ne]
    omega
end Go.Proofs.YtddflihgadlafaaGreat

/-
  TicketsPlay: the walk.
-/
namespace Go.Proofs.YtddflihgadlafaaGreat
open Go.RowKit Go.Maps
set_option linter.unusedVariables false

theorem below_drw {w w' : World} (h : Below w.drew.heap.size w.drew w') : Below w.heap.size w w' := ⟨h.os, h.tape, h.output, h.size, fun k hk => h.block k hk⟩
theorem TPS.frz {w0 w : World} {B R : WB} {q th ob : Nat} {p : PS} {m : Nat} {O : Nat → OpS} {P X : Nat → Nat} (h : TPS w0 w B R q th ob p m O P X) (o : Nat) : w.frozen? ⟨ob, o, none⟩ = false := by
  obtain ⟨cs, h1, h2⟩ := h.ops
  exact hfrz h1 o
abbrev nil24 : Array Value := #[.pointer none, .pointer none, .pointer none, .pointer none, .pointer none, .pointer none, .pointer none, .pointer none, .pointer none, .pointer none, .pointer none, .pointer none, .pointer none, .pointer none, .pointer none, .pointer none, .pointer none, .pointer none, .pointer none, .pointer none, .pointer none, .pointer none, .pointer none, .pointer none]
theorem mk6 (w : World) : (Instr.makeSlice 53 (.int .i64 6) (.int .i64 6)).run Tryz.prog w = .ok (.slice (some ⟨w.heap.size, 0, none⟩) 6 6) (w.alloc (.cells nil24 63)) := by kernel_rfl
set_option maxRecDepth 100000 in
set_option maxHeartbeats 8000000 in
theorem tplay_any (f : Fst) (l : List TAc) (al : Option Addr) (capl : Nat) (w : World) (hr : FstRd w f) (hl : TActs w al capl l) :
    Calls Tryz.prog 4 #[.agg #[.int .i64 f.c.bits, .int .i64 f.c.budget, .int .i64 f.c.tries, .int .i64 f.c.quantum, .int .i64 f.c.way, .bool f.gr, .slice f.ia f.its.length f.ic, .slice f.pa f.puts.length f.pc, .slice f.sa f.sts.length f.sc, .int .i64 f.ticks], .slice al l.length capl] w
    fun e w' => e = .returned (.bool true) ∧ Below w.heap.size w w' := by
  have hml : l.length ≤ maxLen := Nat.le_trans hl.le hl.most
  unfold maxLen at hml
  have hB := below_alloc w (.cells f.cells 28)
  have z := heap_alloc_new w (.cells f.cells 28)
  have HR := Lib.hid (hr.below hB); have HB := Lib.hid hB; have HZ := Lib.hid z; have HLL := Lib.hid hl
  clear hr hB z hl
  go_enter Tryz.func4, Tryz.ntmps4
  go_upto_region 1 with (fail)
  change Code.wp _ _ _ _ (w.alloc (.cells f.cells 28))
  generalize w.alloc (.cells f.cells 28) = w1 at *
  have z := HZ.out
  obtain ⟨e0, e1, e2, e3, e4, e5, e6, e7, e8, e9⟩ := fst_cells z
  clear z
  by_cases h3 : 300 < l.length
  · have d3 : decide ((300 : Int) < l.length) = true := decide_eq_true (by omega)
    clear h3
    go_upto_if 18 with (go_at_call 11; refine (great_any f w1 HR.out).mono ?_; rintro e w2 ⟨g, rfl, b2, hg⟩; have B2 := Lib.hid b2; clear b2 hg e0 e1 e2 e3 e4 e5 e6 e7 e8 e9; cases g)
    all_goals
      go_wp2_with (go_at_call 17; refine (lives11 _).mono ?_; rintro e w3 ⟨rfl, b3⟩)
      go_ret
      have h1 := HB.out.trans (B2.out.mono HB.out.size)
      exact ⟨rfl, h1.trans (b3.mono h1.size)⟩
  have d3 : decide ((300 : Int) < l.length) = false := decide_eq_false (by omega)
  have HL3 : Hid (l.length ≤ 300) := by show l.length ≤ 300; omega
  clear h3
  go_upto_if 18 with (go_at_call 11; refine (great_any f w1 HR.out).mono ?_; rintro e w2 ⟨g, rfl, b2, hg⟩; have B2 := Lib.hid b2; have HG := Lib.hid hg; clear b2 hg e0 e1 e2 e3 e4 e5 e6 e7 e8 e9; cases g)
  rotate_left
  · go_wp2_with (go_at_call 17; refine (lives11 _).mono ?_; rintro e w3 ⟨rfl, b3⟩)
    go_ret
    have h1 := HB.out.trans (B2.out.mono HB.out.size)
    exact ⟨rfl, h1.trans (b3.mono h1.size)⟩
  obtain ⟨hin, hsz⟩ := HG.out trivial
  have HIN := Lib.hid (hin.below B2.out)
  have hitl : f.its.length ≤ 40 := hin.ni
  have HBB : Hid (Below w.heap.size w w2) := HB.out.trans (B2.out.mono HB.out.size)
  have z := (B2.out.block _ (Array.getElem?_eq_some_iff.1 HZ.out).1).trans HZ.out
  obtain ⟨e0, e1, e2, e3, e4, e5, e6, e7, e8, e9⟩ := fst_cells z
  clear z hin hsz
  go_upto_region 4 with (go_at_call 13; refine (begin_any f w2 HIN.out).mono ?_; rintro e w3 ⟨B, R, V, s, x, rfl, hpr, hV, hfar, -, -⟩; have HPR := Lib.hid hpr; have HFAR := Lib.hid hfar; have HV : Hid (V.nts = [] ∧ V.its.length ≤ 40 ∧ ∀ k, 0 ≤ V.tk.getD k 0 ∧ V.tk.getD k 0 < 18446744073709551616) := ⟨by rw [hV]; rfl, by rw [hV]; exact hitl, fun k => by rw [hV]; show 0 ≤ (List.replicate 64 (0 : Int)).getD k 0 ∧ (List.replicate 64 (0 : Int)).getD k 0 < _; rw [List.getD_eq_getElem?_getD, List.getElem?_replicate]; split <;> decide⟩; clear hpr hV hfar e0 e1 e2 e3 e4 e5 e6 e7 e8 e9)
  have hq0 := heap_alloc_new w3 (.cells #[.pointer (some ⟨B.wb, 0, none⟩), .pointer (some ⟨R.wb, 0, none⟩)] 34)
  have hB4 := below_alloc w3 (.cells #[.pointer (some ⟨B.wb, 0, none⟩), .pointer (some ⟨R.wb, 0, none⟩)] 34)
  have HPR4 := Lib.hid (HPR.out.keep hB4)
  change Code.wp _ _ _ _ (w3.alloc (.cells #[.pointer (some ⟨B.wb, 0, none⟩), .pointer (some ⟨R.wb, 0, none⟩)] 34))
  generalize w3.alloc (.cells #[.pointer (some ⟨B.wb, 0, none⟩), .pointer (some ⟨R.wb, 0, none⟩)] 34) = w4 at *
  generalize w3.heap.size = q at *
  have HQ4 := Lib.hid hq0
  clear HPR hq0 hB4
  have hmk := mk6
  go_upto_region 6 with (fail)
  have hz5 := heap_alloc_new w4 (.cells #[.int .i64 0, .int .i64 1, .int .i64 2, .int .i64 3, .int .i64 62, .int .i64 63] 3)
  have hb5 := below_alloc w4 (.cells #[.int .i64 0, .int .i64 1, .int .i64 2, .int .i64 3, .int .i64 62, .int .i64 63] 3)
  have hz6 := heap_alloc_new (w4.alloc (.cells #[.int .i64 0, .int .i64 1, .int .i64 2, .int .i64 3, .int .i64 62, .int .i64 63] 3)) (.cells nil24 63)
  have hb6 := below_alloc (w4.alloc (.cells #[.int .i64 0, .int .i64 1, .int .i64 2, .int .i64 3, .int .i64 62, .int .i64 63] 3)) (.cells nil24 63)
  have hsz5 : (w4.alloc (.cells #[.int .i64 0, .int .i64 1, .int .i64 2, .int .i64 3, .int .i64 62, .int .i64 63] 3)).heap.size = w4.heap.size + 1 := by simp
  rw [hsz5] at hz6
  have hb46 := hb5.trans (hb6.mono hb5.size)
  have HTP : Hid (TPS w2 ((w4.alloc (.cells #[.int .i64 0, .int .i64 1, .int .i64 2, .int .i64 3, .int .i64 62, .int .i64 63] 3)).alloc (.cells nil24 63)) B R q w4.heap.size (w4.heap.size + 1) ⟨V, s, x⟩ 300 (fun _ => .none) (fun _ => 0) (fun _ => 0)) :=
    ⟨HPR4.out.keep hb46, ⟨HPR4.out.al, HFAR.out⟩, HV.out, (hb46.block _ (Array.getElem?_eq_some_iff.1 HQ4.out).1).trans HQ4.out, heap_alloc_old hz5, ⟨nil24, hz6, fun k hk j hj => by
      match k, hk, j, hj with
      | 0, _, 0, _ | 0, _, 1, _ | 0, _, 2, _ | 0, _, 3, _ | 1, _, 0, _ | 1, _, 1, _ | 1, _, 2, _ | 1, _, 3, _ | 2, _, 0, _ | 2, _, 1, _ | 2, _, 2, _ | 2, _, 3, _ => rfl
      | 3, _, 0, _ | 3, _, 1, _ | 3, _, 2, _ | 3, _, 3, _ | 4, _, 0, _ | 4, _, 1, _ | 4, _, 2, _ | 4, _, 3, _ | 5, _, 0, _ | 5, _, 1, _ | 5, _, 2, _ | 5, _, 3, _ => rfl⟩,
      Nat.le_succ_of_le HPR4.out.ws.below.size, fun k hk => ⟨trivial, trivial, trivial⟩, fun i j _ _ _ h _ => absurd rfl h⟩
  clear hz5 hb5 hz6 hb6 hsz5 hb46 HPR4 HQ4 HFAR HV hmk
  change Code.wp _ _ _ _ ((w4.alloc (.cells #[.int .i64 0, .int .i64 1, .int .i64 2, .int .i64 3, .int .i64 62, .int .i64 63] 3)).alloc (.cells nil24 63))
  generalize (w4.alloc (.cells #[.int .i64 0, .int .i64 1, .int .i64 2, .int .i64 3, .int .i64 62, .int .i64 63] 3)).alloc (.cells nil24 63) = w5 at *
  generalize w4.heap.size + 1 = ob at *
  generalize w4.heap.size = th at *
  clear d3 hitl HIN B2 HG HZ HR HB
  have HLL2 := Lib.hid (HLL.out.below HBB.out)
  clear HLL
  go_wp2_with fail
  go_loopw [8] (fun i wr => ∃ (k : Nat) (p : PS) (O : Nat → OpS) (P X : Nat → Nat), k ≤ l.length ∧ i = .int .i64 k ∧ TPS w2 wr B R q th ob p (300 + k) O P X) (fun i _ => l.length - (intOf i).toNat)
  case atStart => exact ⟨0, ⟨V, s, x⟩, _, _, _, by omega, rfl, HTP.out⟩
  case round =>
    clear HTP V s x
    obtain ⟨i, p, O, P, X, hi, rfl, hT⟩ := hrel
    have hl300 := HL3.out
    by_cases hlt : i < l.length
    · have hlt' : (i : Int) < l.length := by omega
      obtain ⟨b, off, y, rfl, hy, hyw, y0, y1, y2, y3⟩ := (HLL2.out.below (w := w2) (w' := wr) hT.pr.ws.below).at i hlt
      have hkb := wf_u8 hyw.k
      have hab := wf_u8 hyw.a
      obtain ⟨j, hj⟩ : ∃ j : Nat, (j : Int) = y.a % 6 := ⟨(y.a % 6).toNat, by omega⟩
      have hj6 : j < 6 := by omega
      have hj6' : (j : Int) < 6 := by omega
      have e1 : wrap64 y.a = y.a := IntWalk.wrap64_in _ (by omega)
      have e2 : y.a.tmod 6 = j := by rw [Int.tmod_eq_emod_of_nonneg hab.1, hj]
      obtain ⟨kk, hkk⟩ : ∃ kk : Nat, (kk : Int) = y.k % 10 := ⟨(y.k % 10).toNat, by omega⟩
      have e3 : y.k.tmod 10 = kk := by rw [Int.tmod_eq_emod_of_nonneg hkb.1, hkk]
      have hk10 : kk < 10 := by omega
      have hb1 := below_alloc wr (.cells #[.int .u8 y.k, .int .u8 y.a, .int .u64 y.v, .int .u64 y.i] 55)
      have hz1 := heap_alloc_new wr (.cells #[.int .u8 y.k, .int .u8 y.a, .int .u64 y.v, .int .u64 y.i] 55)
      have HT := Lib.hid (hT.below hb1); have HZ1 := Lib.hid hz1; have HYW := Lib.hid hyw; have HK10 := Lib.hid hk10
      clear hb1 hz1 hT hy hyw hkb hab hj hkk hk10
      go_upto_region 10 with (fail)
      change Code.wp _ _ _ _ (wr.alloc (.cells #[.int .u8 y.k, .int .u8 y.a, .int .u64 y.v, .int .u64 y.i] 55))
      generalize wr.alloc (.cells #[.int .u8 y.k, .int .u8 y.a, .int .u64 y.v, .int .u64 y.i] 55) = w6 at *
      generalize wr.heap.size = ab at *
      clear y0 y1 y2 y3
      have y0 : w6.cell? ⟨ab, 0, none⟩ = some (.int .u8 y.k) := hcell HZ1.out 0
      have y1 : w6.cell? ⟨ab, 1, none⟩ = some (.int .u8 y.a) := hcell HZ1.out 1
      go_upto_block 2 with (fail)
      clear y0 y1 e1 e2
      go_cut [] (fun wx => ∃ (p : PS) (O : Nat → OpS) (P X : Nat → Nat), TPS w2 wx B R q th ob p (300 + (i + 1)) O P X)
      case first =>
        rcases (show kk = 0 ∨ kk = 1 ∨ kk = 2 ∨ kk = 3 ∨ kk = 4 ∨ 5 ≤ kk by omega) with rfl | rfl | rfl | rfl | rfl | h5
        · -- a Take begins
          obtain ⟨c0, c1, c2, c3, hop, k0, k1, k2, k3⟩ := HT.out.cells j hj6
          have tc := HT.out.thc j hj6
          have ht := thrs_lt j
          go_upto_region 16 with (fail)
          obtain ⟨t, htt⟩ : ∃ t, t = thrs.getD j 0 := ⟨_, rfl⟩
          rw [← htt] at tc ht
          have HTT := Lib.hid htt
          clear hop k0 k1 k2 k3 htt
          have tcd : w6.drew.cell? ⟨th, j, none⟩ = some (.int .i64 t) := tc
          have hA1 := newtake_in t ht w6.drew
          have hB1 := rnewtake t ht w6.drew
          have HTC := Lib.hid tc; have HT64 := Lib.hid ht
          clear tc ht
          go_region_with (first
            | (go_at_call 18; with_reducible refine hA1.mono ?_; intro e wA hh; obtain ⟨hh1, hta, hba⟩ := hh; subst hh1; have hbA := below_drw hba; have tcA := (hbA.cell (p := ⟨th, j, none⟩) (World.block_lt_of_cell? _ _ HTC.out)).trans HTC.out; have hB2 := rnewtake t HT64.out wA; have TA := Lib.hid hta; have BA := Lib.hid hbA; clear hta hba hbA hA1 hB1)
            | (go_at_call 19; with_reducible refine hB2.mono ?_; intro e wF hh; obtain ⟨hh1, htb, hbb⟩ := hh; subst hh1; have g1 := BA.out.trans (hbb.mono BA.out.size); have g2 := TA.out.below hbb; obtain ⟨d0, d1, d2, d3, -, k0, k1, k2, k3⟩ := (HT.out.below g1).cells j hj6; have kf := (HT.out.below g1).frz; have HF := Lib.hid (And.intro g1 (And.intro g2 (And.intro htb BA.out.size))); clear htb hbb hB2 g1 g2 tcA)
            | (go_at_call 19; with_reducible refine hB1.mono ?_; intro e wA hh; obtain ⟨hh1, htb, hbb⟩ := hh; subst hh1; have hbB := below_drw hbb; have tcA := (hbB.cell (p := ⟨th, j, none⟩) (World.block_lt_of_cell? _ _ HTC.out)).trans HTC.out; have hA2 := newtake_in t HT64.out wA; have TB := Lib.hid htb; have BB := Lib.hid hbB; clear htb hbb hbB hA1 hB1)
            | (go_at_call 18; with_reducible refine hA2.mono ?_; intro e wF hh; obtain ⟨hh1, hta, hba⟩ := hh; subst hh1; have g1 := BB.out.trans (hba.mono BB.out.size); obtain ⟨d0, d1, d2, d3, -, k0, k1, k2, k3⟩ := (HT.out.below g1).cells j hj6; have kf := (HT.out.below g1).frz; have g3 : RTakeAt wF w6.drew.heap.size t 0 false 1 := (hba.block _ (Array.getElem?_eq_some_iff.1 TB.out).1).trans TB.out; have HF := Lib.hid (And.intro g1 (And.intro hta (And.intro g3 BB.out.size))); clear hta hba hA2 g1 g3 tcA))
          all_goals go_wp2_with fail
          all_goals go_meet
          all_goals (have htt := HTT.out; subst htt)
          · exact ⟨p, _, _, _, (HT.out.put HF.out.1 j hj6 (.take 0 false 1) _ _ (show (1 : Nat) ≤ 2 by decide) ⟨HF.out.2.1, HT.out.pr.ws.below.size⟩ ⟨HF.out.2.2.1, Nat.le_trans HT.out.pr.ws.below.size HF.out.2.2.2⟩ (Nat.le_refl _) HF.out.2.2.2 _ _ _ _ rfl).le (by omega)⟩
          all_goals first
            | exact ⟨p, _, _, _, (HT.out.put HF.out.1 j hj6 (.take 0 false 1) _ _ (show (1 : Nat) ≤ 2 by decide) ⟨HF.out.2.1, HT.out.pr.ws.below.size⟩ ⟨HF.out.2.2.1, Nat.le_trans HT.out.pr.ws.below.size HF.out.2.2.2⟩ (Nat.le_refl _) HF.out.2.2.2 _ _ _ _ rfl).le (by omega)⟩
            | exact ⟨p, _, _, _, (HT.out.put HF.out.1 j hj6 (.take 0 false 1) _ _ (show (1 : Nat) ≤ 2 by decide) ⟨HF.out.2.1, Nat.le_trans HT.out.pr.ws.below.size HF.out.2.2.2⟩ ⟨HF.out.2.2.1, HT.out.pr.ws.below.size⟩ HF.out.2.2.2 (Nat.le_refl _) _ _ _ _ rfl).le (by omega)⟩
        · -- a Take begins
          obtain ⟨c0, c1, c2, c3, hop, k0, k1, k2, k3⟩ := HT.out.cells j hj6
          have tc := HT.out.thc j hj6
          have ht := thrs_lt j
          go_upto_region 16 with (fail)
          obtain ⟨t, htt⟩ : ∃ t, t = thrs.getD j 0 := ⟨_, rfl⟩
          rw [← htt] at tc ht
          have HTT := Lib.hid htt
          clear hop k0 k1 k2 k3 htt
          have tcd : w6.drew.cell? ⟨th, j, none⟩ = some (.int .i64 t) := tc
          have hA1 := newtake_in t ht w6.drew
          have hB1 := rnewtake t ht w6.drew
          have HTC := Lib.hid tc; have HT64 := Lib.hid ht
          clear tc ht
          go_region_with (first
            | (go_at_call 18; with_reducible refine hA1.mono ?_; intro e wA hh; obtain ⟨hh1, hta, hba⟩ := hh; subst hh1; have hbA := below_drw hba; have tcA := (hbA.cell (p := ⟨th, j, none⟩) (World.block_lt_of_cell? _ _ HTC.out)).trans HTC.out; have hB2 := rnewtake t HT64.out wA; have TA := Lib.hid hta; have BA := Lib.hid hbA; clear hta hba hbA hA1 hB1)
            | (go_at_call 19; with_reducible refine hB2.mono ?_; intro e wF hh; obtain ⟨hh1, htb, hbb⟩ := hh; subst hh1; have g1 := BA.out.trans (hbb.mono BA.out.size); have g2 := TA.out.below hbb; obtain ⟨d0, d1, d2, d3, -, k0, k1, k2, k3⟩ := (HT.out.below g1).cells j hj6; have kf := (HT.out.below g1).frz; have HF := Lib.hid (And.intro g1 (And.intro g2 (And.intro htb BA.out.size))); clear htb hbb hB2 g1 g2 tcA)
            | (go_at_call 19; with_reducible refine hB1.mono ?_; intro e wA hh; obtain ⟨hh1, htb, hbb⟩ := hh; subst hh1; have hbB := below_drw hbb; have tcA := (hbB.cell (p := ⟨th, j, none⟩) (World.block_lt_of_cell? _ _ HTC.out)).trans HTC.out; have hA2 := newtake_in t HT64.out wA; have TB := Lib.hid htb; have BB := Lib.hid hbB; clear htb hbb hbB hA1 hB1)
            | (go_at_call 18; with_reducible refine hA2.mono ?_; intro e wF hh; obtain ⟨hh1, hta, hba⟩ := hh; subst hh1; have g1 := BB.out.trans (hba.mono BB.out.size); obtain ⟨d0, d1, d2, d3, -, k0, k1, k2, k3⟩ := (HT.out.below g1).cells j hj6; have kf := (HT.out.below g1).frz; have g3 : RTakeAt wF w6.drew.heap.size t 0 false 1 := (hba.block _ (Array.getElem?_eq_some_iff.1 TB.out).1).trans TB.out; have HF := Lib.hid (And.intro g1 (And.intro hta (And.intro g3 BB.out.size))); clear hta hba hA2 g1 g3 tcA))
          all_goals go_wp2_with fail
          all_goals go_meet
          all_goals (have htt := HTT.out; subst htt)
          · exact ⟨p, _, _, _, (HT.out.put HF.out.1 j hj6 (.take 0 false 1) _ _ (show (1 : Nat) ≤ 2 by decide) ⟨HF.out.2.1, HT.out.pr.ws.below.size⟩ ⟨HF.out.2.2.1, Nat.le_trans HT.out.pr.ws.below.size HF.out.2.2.2⟩ (Nat.le_refl _) HF.out.2.2.2 _ _ _ _ rfl).le (by omega)⟩
          all_goals first
            | exact ⟨p, _, _, _, (HT.out.put HF.out.1 j hj6 (.take 0 false 1) _ _ (show (1 : Nat) ≤ 2 by decide) ⟨HF.out.2.1, HT.out.pr.ws.below.size⟩ ⟨HF.out.2.2.1, Nat.le_trans HT.out.pr.ws.below.size HF.out.2.2.2⟩ (Nat.le_refl _) HF.out.2.2.2 _ _ _ _ rfl).le (by omega)⟩
            | exact ⟨p, _, _, _, (HT.out.put HF.out.1 j hj6 (.take 0 false 1) _ _ (show (1 : Nat) ≤ 2 by decide) ⟨HF.out.2.1, Nat.le_trans HT.out.pr.ws.below.size HF.out.2.2.2⟩ ⟨HF.out.2.2.1, HT.out.pr.ws.below.size⟩ HF.out.2.2.2 (Nat.le_refl _) _ _ _ _ rfl).le (by omega)⟩
        · -- a Give begins
          go_upto_region 18 with (fail)
          go_wp2_with (first
            | (go_at_call 20; refine (newgive w6).mono ?_; intro e wA hh; obtain ⟨hh1, hta, hba⟩ := hh; subst hh1; have GA := Lib.hid hta; have BA := Lib.hid hba; clear hta hba)
            | (go_at_call 21; refine (rnewgive wA).mono ?_; intro e wF hh; obtain ⟨hh1, htb, hbb⟩ := hh; subst hh1; have g1 := BA.out.trans (hbb.mono BA.out.size); obtain ⟨d0, d1, d2, d3, -, k0, k1, k2, k3⟩ := (HT.out.below g1).cells j hj6; have kf := (HT.out.below g1).frz; have g2 : GiveAt wF w6.heap.size 1 := (hbb.block _ GA.out.lt).trans GA.out; have HF := Lib.hid (And.intro g1 (And.intro g2 (And.intro htb BA.out.size))); clear htb hbb g1 g2))
          go_meet
          case rel => exact ⟨p, _, _, _, (HT.out.put HF.out.1 j hj6 (.give 1) _ _ (Nat.le_refl 1) ⟨HF.out.2.1, HT.out.pr.ws.below.size⟩ ⟨HF.out.2.2.1, Nat.le_trans HT.out.pr.ws.below.size HF.out.2.2.2⟩ (Nat.le_refl _) HF.out.2.2.2 _ _ _ _ rfl).le (by omega)⟩
        · -- others store
          have y2 : w6.cell? ⟨ab, 2, none⟩ = some (.int .u64 y.v) := hcell HZ1.out 2
          have y3 : w6.cell? ⟨ab, 3, none⟩ = some (.int .u64 y.i) := hcell HZ1.out 3
          have p0 := hcell HT.out.pq 0
          have p1 := hcell HT.out.pq 1
          have hst := pstore_any HT.out.pr (300 + i) HT.out.ok.far (by omega) y.v y.i HYW.out.v HYW.out.i
          go_wp2_with (go_at_call 22; refine hst.mono ?_; intro e w7 hh; obtain ⟨hh1, h7, f7⟩ := hh; subst hh1; have HT7 := Lib.hid (HT.out.world (p' := ⟨p.V, p.s.acc 2 y.v y.i, p.x.acc 2 y.v y.i⟩) (m' := 300 + (i + 1)) h7 ⟨HT.out.ok.al.acc _ _ _, HT.out.ok.far.acc HT.out.ok.al _ _ _⟩ HT.out.nts f7); clear h7 f7 hst p0 p1 y2 y3)
          go_meet
          case rel => exact ⟨_, O, P, X, HT7.out⟩
        · have y3 : w6.cell? ⟨ab, 3, none⟩ = some (.int .u64 y.i) := hcell HZ1.out 3
          have p0 := hcell HT.out.pq 0
          have p1 := hcell HT.out.pq 1
          have hst := pstore_any HT.out.pr (300 + i) HT.out.ok.far (by omega) 1 y.i (by decide) HYW.out.i
          go_wp2_with (go_at_call 22; refine hst.mono ?_; intro e w7 hh; obtain ⟨hh1, h7, f7⟩ := hh; subst hh1; have HT7 := Lib.hid (HT.out.world (p' := ⟨p.V, p.s.acc 2 1 y.i, p.x.acc 2 1 y.i⟩) (m' := 300 + (i + 1)) h7 ⟨HT.out.ok.al.acc _ _ _, HT.out.ok.far.acc HT.out.ok.al _ _ _⟩ HT.out.nts f7); clear h7 f7 hst p0 p1 y3)
          go_meet
          case rel => exact ⟨_, O, P, X, HT7.out⟩
        · -- a step
          have d0 : ((kk : Int) == 0) = false := beq_eq_false_iff_ne.2 (by omega)
          have d1 : ((kk : Int) == 1) = false := beq_eq_false_iff_ne.2 (by omega)
          have d2 : ((kk : Int) == 2) = false := beq_eq_false_iff_ne.2 (by omega)
          have d3 : ((kk : Int) == 3) = false := beq_eq_false_iff_ne.2 (by omega)
          have d4 : ((kk : Int) == 4) = false := beq_eq_false_iff_ne.2 (by omega)
          clear h5
          obtain ⟨c0, c1, c2, c3, hop, k0, k1, k2, k3⟩ := HT.out.cells j hj6
          go_upto_region 12 with (fail)
          clear d0 d1 d2 d3 d4
          have x0 : ∀ st : ExtW w6, st.val.cell? ⟨ob, j * 4, none⟩ = some (.pointer c0) := fun st => st.cell k0
          have x1 : ∀ st : ExtW w6, st.val.cell? ⟨ob, j * 4 + 1, none⟩ = some (.pointer c1) := fun st => st.cell k1
          have x2 : ∀ st : ExtW w6, st.val.cell? ⟨ob, j * 4 + 2, none⟩ = some (.pointer c2) := fun st => st.cell k2
          have x3 : ∀ st : ExtW w6, st.val.cell? ⟨ob, j * 4 + 3, none⟩ = some (.pointer c3) := fun st => st.cell k3
          have p0 : ∀ st : ExtW w6, st.val.cell? ⟨q, 0, none⟩ = some (.pointer (some ⟨B.wb, 0, none⟩)) := fun st => st.cell (hcell HT.out.pq 0)
          have p1 : ∀ st : ExtW w6, st.val.cell? ⟨q, 1, none⟩ = some (.pointer (some ⟨R.wb, 0, none⟩)) := fun st => st.cell (hcell HT.out.pq 1)
          have HOP := Lib.hid hop
          clear hop k0 k1 k2 k3
          refine wp_region_ext_tail 5 (by kernel_rfl) (by kernel_rfl) ?_
          simp only [List.take_succ_cons, List.take_zero, List.drop_succ_cons, List.drop_zero]
          repeat (go_big_quiet_step (fail))
          refine wpQuiet_nil ?_
          rintro W3 ⟨⟨W4, hW⟩, rfl⟩
          clear x0 x1 x2 x3 p0 p1
          have hst := ostep_any (HT.out.below hW) (by omega) j hj6
          rw [show opV (P j) (X j) (O j) = _ from HOP.out] at hst
          clear hW
          go_wp2_with (go_at_call 23; refine hst.mono ?_; intro e w7 hh; obtain ⟨hh1, p', O', h7⟩ := hh; subst hh1; have HT7 := Lib.hid h7; clear h7 hst)
          go_meet
          case rel => exact ⟨p', O', P, X, HT7.out⟩
      case rest =>
      clear HT HZ1 HYW HK10 e3
      obtain ⟨p2, O2, P2, X2, hT2⟩ := hcut
      obtain ⟨c0, c1, c2, c3, hop, k0, k1, k2, k3⟩ := hT2.cells j hj6
      have hsm := osame_at hT2 j hj6
      rw [hop] at hsm
      have HT2 := Lib.hid hT2
      clear hop hT2
      go_upto_region 25 with (first
        | (go_at_call 24; refine hsm.mono ?_; intro e w8 hh; obtain ⟨hh1, b8⟩ := hh; subst hh1; have HT8 := Lib.hid (HT2.out.below b8); have p0 := hcell HT8.out.pq 0; have p1 := hcell HT8.out.pq 1; have hps := psame_any HT8.out.pr; clear hsm b8 k0 k1 k2 k3)
        | (go_at_call 16; refine hps.mono ?_; intro e w9 hh; obtain ⟨hh1, b9⟩ := hh; subst hh1; have HT9 := Lib.hid (HT8.out.below b9); clear hps b9 p0 p1))
      clear HT2 HT8
      go_wp2_with fail
      go_loopw [11] (fun v wr => ∃ n : Nat, n ≤ 6 ∧ v = .int .i64 n ∧ TPS w2 wr B R q th ob p2 (300 + (i + 1)) O2 P2 X2) (fun v _ => 6 - (intOf v).toNat)
      case atStart => exact ⟨0, by omega, rfl, HT9.out⟩
      case round =>
        clear HT9
        obtain ⟨n, hn, rfl, hT⟩ := hrel
        by_cases hlt2 : n < 6
        · have hlt2' : (n : Int) < 6 := by omega
          have tc := hT.thc n hlt2
          have ht := thrs_lt n
          obtain ⟨t, htt⟩ : ∃ t, t = thrs.getD n 0 := ⟨_, rfl⟩
          rw [← htt] at tc ht
          have hwf1 := wf_bd (hT.pr.ws.own.wf 1)
          have hwa := waits_alike (hT.nts.2.2 t) hwf1
          have hl1 : rlook p2.x.l 1 = p2.s.val 1 := (congrFun hT.ok.al.val 1).symm
          obtain ⟨wv, hwv⟩ : ∃ wv, wv = (p2.V.tk.getD t 0 != 0 && p2.s.val 1 != IntKind.u64.wrap (p2.V.tk.getD t 0 - 1)) := ⟨_, rfl⟩
          have m1 : ∀ st : ExtW wr, Calls Tryz.prog 25 #[.pointer (some ⟨B.wb, 0, none⟩), .int .i64 t] st.val fun e w' => e = .returned (.bool wv) ∧ st.val = w' := fun st => by
            rw [hwv]; exact (waits_any (hT.pr.ws.keep st.below) t ht).mono fun e w' ⟨h1, h2⟩ => ⟨h1, h2.symm⟩
          have m2 : ∀ st : ExtW wr, Calls Tryz.prog 26 #[.pointer (some ⟨R.wb, 0, none⟩), .int .i64 t] st.val fun e w' => e = .returned (.bool wv) ∧ Below st.val.heap.size st.val w' := fun st => by
            have := rwaits (hT.pr.rd.keep st.below) ht
            rw [hl1, hwa, ← hwv] at this
            exact this
          have x0 : ∀ st : ExtW wr, st.val.cell? ⟨th, n, none⟩ = some (.int .i64 t) := fun st => st.cell tc
          have q0 : ∀ st : ExtW wr, st.val.cell? ⟨q, 0, none⟩ = some (.pointer (some ⟨B.wb, 0, none⟩)) := fun st => st.cell (hcell hT.pq 0)
          have q1 : ∀ st : ExtW wr, st.val.cell? ⟨q, 1, none⟩ = some (.pointer (some ⟨R.wb, 0, none⟩)) := fun st => st.cell (hcell hT.pq 1)
          have HT := Lib.hid hT
          clear hT tc htt hwf1 hwa hl1 hwv
          go_upto_region 28 with (fail)
          refine wp_region_ext (by kernel_rfl) (by kernel_rfl) ?_
          repeat (go_big_quiet_step (first
            | (go_at_call 25; with_reducible refine calls_ext_same (m1 _))
            | (go_at_call 26; with_reducible refine calls_ext (m2 _))))
          refine wpQuiet_nil ?_
          rintro W ⟨⟨W2, hW⟩, rfl⟩
          have HT3 := Lib.hid (HT.out.below hW)
          clear hW m1 m2 x0 q0 q1 HT
          cases wv
          all_goals
            go_wp2
            go_roundw
            case rel => exact ⟨n + 1, by omega, by go_num, HT3.out⟩
            case measure => simp [intOf]; omega
        · obtain rfl : n = 6 := by omega
          have HT := Lib.hid hT
          clear hT hlt2
          go_wp2_with fail
          go_roundw
          case rel => exact ⟨i + 1, p2, O2, P2, X2, by omega, by go_num, HT.out⟩
          case measure => simp [intOf]; omega
    · obtain rfl : i = l.length := by omega
      have p0 := hcell hT.pq 0
      have p1 := hcell hT.pq 1
      have o6 := psall_any hT.pr hT.nts.1 (by have := hT.nts.2.1; omega) (by have := hT.ok.far.1; omega)
      have HT := Lib.hid hT
      clear hT hlt
      go_wp2_with (first
        | (go_at_call 14; refine o6.mono ?_; intro e w17 hh; obtain ⟨hh1, b17⟩ := hh; subst hh1; have HB17 := Lib.hid b17; clear o6 b17 p0 p1)
        | (go_at_call 17; refine (lives11 _).mono ?_; rintro e w18 ⟨rfl, b18⟩))
      go_ret
      have h0 := HT.out.pr.ws.below
      have h1 := h0.trans (HB17.out.mono h0.size)
      have h2 := h1.trans (b18.mono h1.size)
      exact ⟨rfl, HBB.out.trans (h2.mono HBB.out.size)⟩
set_option maxRecDepth 10000 in
theorem walkTicketsPlay {H1 : Type} (w : World) (enc : TypeId × Value → H1) (base : Nat) (v : Value) (d : DataW H1) (p : List MemPlace) (k : DataW.Trod enc Tryz.prog w 0 (fun _ => true) true 28 v d p) (o : Value.okWide Tryz.prog w .any base 28 v)
    (enc2 : TypeId × Value → H1) (base2 : Nat) (v2 : Value) (d2 : DataW H1) (p2 : List MemPlace) (k2 : DataW.Trod enc2 Tryz.prog w 0 (fun _ => true) true 51 v2 d2 p2) (o2 : Value.okWide Tryz.prog w .any base2 51 v2) :
    Calls Tryz.prog 4 #[v, v2] w fun e w' => e = .returned (.bool true) ∧ Below w.heap.size w w' := by
  have hl : leaves Tryz.prog 4 51 = some [.sl tacLeaves] := by kernel_rfl
  obtain ⟨f, rfl, hr⟩ := fst_open k o
  obtain ⟨a1, n1, cap1, rfl⟩ := Go.WideShapes.okWide_slice Tryz.underlying51 o2
  obtain ⟨l, hll, hac⟩ := tacts_of (opened hl k2).1
  subst hll
  exact tplay_any f l a1 cap1 w hr hac
end Go.Proofs.YtddflihgadlafaaGreat
