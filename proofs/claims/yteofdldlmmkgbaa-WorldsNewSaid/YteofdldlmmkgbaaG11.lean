/-
  Texts of this prover, merged: Segs, PairDo, TagPure.
-/
import Derived.Test.YteofdldlmmkgbaaG3
import Derived.Test.YteofdldlmmkgbaaG10
import Derived.Test.YteofdldlmmkgbaaG8
import Derived.Maps.RangeWalk
import Derived.WalkKit
/-
  A region that draws its order, in segments: what reads, or only makes memory, in whatever order; then one operation that may write, behind all of these and ahead of all others; and so on. One walk of the text's order serves every order.
-/
namespace Go.Proofs.Yteofdldlmmkgbaa
open Go.RowKit
set_option linter.unusedVariables false
section
variable {P : Program} {ops : Array Oper} {md : Region.Mode} {C : World → Prop}

/-- Each operation from k on ahead of n is waited for by a later one, up to n. -/
def sinkK (md : Region.Mode) (ops : Array Oper) (k n : Nat) : Bool := (List.range n).all fun i => decide (i < k) || (List.range (n + 1)).any fun j => decide (i < j) && Region.waitsFor md ops j i
/-- Each operation behind n waits for one from n on. -/
def lateB (md : Region.Mode) (ops : Array Oper) (n : Nat) : Bool :=
  (List.range ops.size).all fun t => decide (t ≤ n) || (match ops[t]? with | some o => o.after.any fun e => Region.binds md e && decide (n ≤ e.on) | none => true)

structure SegInv (md : Region.Mode) (ops : Array Oper) (k n : Nat) (seen : Array Bool) : Prop where
  inv : HeadInv md ops n seen
  head : ∀ i, i < k → seen.getD i false = true
theorem SegInv.set {k n i : Nat} {seen : Array Bool} (h : SegInv md ops k n seen) (hi : i ∈ Region.ready md ops seen) (hin : i < n) : SegInv md ops k n (seen.setIfInBounds i true) := by
  refine ⟨h.inv.set hi hin, fun j hj => ?_⟩
  by_cases hij : i = j
  · subst hij
    have := (mem_ready.1 hi).1
    have := h.head i hj
    have hs : i < seen.size := by
      rcases Nat.lt_or_ge i seen.size with c | c
      · exact c
      · simp [Array.getElem?_eq_none c] at this
    simp [hs]
  · rw [getD_set_ne false hij]; exact h.head j hj

theorem seg_waits {k n : Nat} {seen : Array Bool} (hs : sinkK md ops k n = true) (hl : lateB md ops n = true) (hn : n < ops.size) (inv : SegInv md ops k n seen) :
    ∀ (d i : Nat), n - i = d → i < n → seen.getD i true = false → ∀ t, n ≤ t → t ∉ Region.ready md ops seen := by
  intro d
  induction d using Nat.strongRecOn with
  | _ d ih =>
    intro i hd hi hun t ht hr
    obtain ⟨_, ot, hot, hall⟩ := mem_ready.1 hr
    have htlt : t < ops.size := (Array.getElem?_eq_some_iff.1 hot).1
    by_cases htn : t = n
    · subst htn
      have h1 := List.all_eq_true.1 hs i (List.mem_range.2 hi)
      simp only [Bool.or_eq_true, decide_eq_true_eq] at h1
      rcases h1 with h1 | h1
      · have := inv.head i h1
        rw [getD_both hun] at this; cases this
      obtain ⟨j, hj, hj2⟩ := List.any_eq_true.1 h1
      simp only [Bool.and_eq_true, decide_eq_true_eq] at hj2
      obtain ⟨oj, hoj, e, he, hb, hon⟩ := Region.waitsFor_spec hj2.2
      have hjle : j ≤ t := by have := List.mem_range.1 hj; omega
      by_cases hjt : j = t
      · subst hjt
        have : oj = ot := Option.some.inj (hoj.symm.trans hot)
        subst this
        have h2 := hall e he hb
        rw [hon, getD_both hun] at h2
        cases h2
      · cases hl : seen.getD j false with
        | true =>
          have h2 := inv.inv.closed j oj hoj hl e he hb
          rw [hon, getD_both hun] at h2
          cases h2
        | false =>
          have hjs : j < seen.size := by rw [inv.inv.size]; omega
          exact ih (t - j) (by omega) j rfl (by omega) (getD_in hjs hl) t (Nat.le_refl _) hr
    · have h1 := List.all_eq_true.1 hl t (List.mem_range.2 htlt)
      simp only [Bool.or_eq_true, decide_eq_true_eq, hot] at h1
      rcases h1 with h1 | h1
      · omega
      obtain ⟨e, he, hb⟩ := Array.any_eq_true'.1 h1
      simp only [Bool.and_eq_true, decide_eq_true_eq] at hb
      have h2 := hall e he hb.1
      rcases Nat.lt_or_ge e.on ops.size with c | c
      · have := inv.inv.tail e.on hb.2 c
        rw [getD_both this] at h2; cases h2
      · have : seen.size ≤ e.on := by rw [inv.inv.size]; exact c
        simp [Array.getElem?_eq_none this] at h2

theorem headK_take {k n i : Nat} {oi : Oper} {v : Value} {L : Array Bool → Act → Prop} (hi : ops[i]? = some oi) (hsel : ∀ (j : Nat) (o : Oper) cs b, ops[j]? = some o → o.op ≠ .select cs b)
    (hs : sinkK md ops k n = true) (hl : lateB md ops n = true) (hn : n < ops.size) (hin : i < n) (hdone : ∀ seen a, L seen a → ∀ j, j ∈ Region.ready md ops seen → n ≤ j) (f : Nat) :
    ∀ (seen : Array Bool) (a : Act), SegInv md ops k n seen →
      (∀ j oj, ops[j]? = some oj → j ≠ i → seen.getD j true = false → (∀ e, e ∈ oj.after → Region.binds md e = true → e.on ≠ i) → oi.apart ops oj = true) →
      i ∈ Region.ready md ops seen → YieldsIn P ops C oi v a → HeadQ P md ops C n L f (seen.setIfInBounds i true) (a.put oi.dst v) → HeadQ P md ops C n L (f + 1) seen a := by
  induction f with
  | zero =>
    intro seen a inv _ hr hy H
    have hun : seen.getD i true = false := (mem_ready.1 hr).1
    refine ⟨fun h => by rw [h] at hr; exact absurd hr (by simp), fun j hj => ?_⟩
    by_cases hjn : n ≤ j
    · exact absurd hj (seg_waits hs hl hn inv _ i rfl hin hun j hjn)
    refine ⟨by omega, ?_⟩
    by_cases hji : j = i
    · rw [hji]; exact hy.qOp hi H
    · exact absurd (hdone _ _ H j (ready_mono hj hji)) hjn
  | succ f ih =>
    intro seen a inv hfree hr hy H
    have hun : seen.getD i true = false := (mem_ready.1 hr).1
    refine ⟨fun h => by rw [h] at hr; exact absurd hr (by simp), fun j hj => ?_⟩
    by_cases hjn : n ≤ j
    · exact absurd hj (seg_waits hs hl hn inv _ i rfl hin hun j hjn)
    refine ⟨by omega, ?_⟩
    by_cases hji : j = i
    · rw [hji]; exact hy.qOp hi H
    obtain ⟨hjun, oj, hoj, hall⟩ := mem_ready.1 hj
    have hno : ∀ e, e ∈ oj.after → Region.binds md e = true → e.on ≠ i := by
      intro e he hb heq
      have := hall e he hb
      rw [heq, getD_both hun] at this
      exact absurd this (by simp)
    have step := qOp_put hoj (hfree j oj hoj hji hjun hno) (fun cs b => hsel i oi cs b hi) (fun cs b => hsel j oj cs b hoj) hy (H.2 j (ready_mono hj hji)).2
    refine qOp_mono (fun a' h3 => ?_) step
    refine ih _ a' (inv.set hj (by omega)) ?_ (ready_mono hr (Ne.symm hji)) h3.1 ?_
    · intro k ok hk hki hunk hnok
      refine hfree k ok hk hki ?_ hnok
      by_cases hjk : j = k
      · rw [← hjk]; exact hjun
      · rwa [getD_set_ne true hjk] at hunk
    · rw [Array.setIfInBounds_comm _ _ hji]; exact h3.2

def lexF (md : Region.Mode) (ops : Array Oper) (F : Array Bool → Bool) : Nat → Nat → Array Bool → Bool
  | 0, _, seen => F seen
  | f + 1, k, seen => (Region.ready md ops seen).contains k && Region.free md ops seen k && lexF md ops F f (k + 1) (seen.setIfInBounds k true)
theorem headK_lex {k0 n : Nat} {R : Act → Prop} {F : Array Bool → Bool} (hsel : Region.noSelect ops = true) (hs : sinkK md ops k0 n = true) (hlt : lateB md ops n = true) (hn : n < ops.size)
    (hF : ∀ seen, F seen = true → ∀ j, j ∈ Region.ready md ops seen → n ≤ j) (l : List Oper) :
    ∀ (k : Nat) (seen : Array Bool) (a : Act), (∀ j, j < l.length → l[j]? = ops[k + j]?) → k + l.length = n → SegInv md ops k0 n seen →
      lexF md ops F l.length k seen = true → wpQuiet P ops C R l a → HeadQ P md ops C n (fun seen' a' => SegInv md ops k0 n seen' ∧ F seen' = true ∧ R a') l.length seen a := by
  induction l with
  | nil =>
    intro k seen a _ hk inv hB h
    exact ⟨inv, hB, h⟩
  | cons o l ih =>
    intro k seen a hl hk inv hB h
    have h0 : ops[k]? = some o := by simpa using (hl 0 (by simp)).symm
    simp only [List.length_cons, lexF, Bool.and_eq_true] at hB
    obtain ⟨⟨hr, hf⟩, hB'⟩ := hB
    have hkn : k < n := by simp only [List.length_cons] at hk; omega
    have hr' : k ∈ Region.ready md ops seen := by simpa using hr
    have hq : qOp P ops C k (wpQuiet P ops C R l) a := by unfold qOp; simp only [h0]; exact h
    obtain ⟨v, hy, hK⟩ := yieldsIn_of_qOp h0 hq
    refine headK_take h0 (Region.noSelect_spec hsel) hs hlt hn hkn (fun seen' a' hL => hF seen' hL.2.1) l.length seen a inv (Region.free_spec h0 hf) hr' hy ?_
    refine ih (k + 1) _ _ (fun j hj => ?_) (by simp only [List.length_cons] at hk; omega) (inv.set hr' hkn) hB' hK
    have := hl (j + 1) (by simp; omega)
    simpa [Nat.add_assoc, Nat.add_comm 1 j] using this

abbrev ExtC (w : World) : World → Prop := fun W => ∃ s : ExtW w, W = s.val
def segB (md : Region.Mode) (ops : Array Oper) : List Nat → Nat → Array Bool → Bool
  | [], k, seen => Region.lexFrom md ops (ops.size - k) k seen
  | n :: ns, k, seen => decide (k ≤ n) && decide (n < ops.size) && sinkK md ops k n && lateB md ops n &&
      lexF md ops (fun s => decide (Region.ready md ops s = [n]) && (List.range n).all (fun i => s.getD i false) && segB md ops ns (n + 1) (s.setIfInBounds n true)) (n - k) k seen
def Segs (P : Program) (ops : Array Oper) (Q : Exit → Act → World → Prop) : List Nat → Nat → List Oper → Act → World → Prop
  | [], _, l, a, w => wpQuiet P ops (ExtC w) (fun a' => ∀ W, ExtC w W → Q .normal a' W) l a
  | n :: ns, k, l, a, w => wpQuiet P ops (ExtC w) (fun a' => ∀ W, ExtC w W → Go.wpOp P ops Q n (fun a2 w2 => Segs P ops Q ns (n + 1) (l.drop (n + 1 - k)) a2 w2) a' W) (l.take (n - k)) a

theorem any_of_segs {Q : Exit → Act → World → Prop} (hsel : Region.noSelect ops = true) : ∀ (ns : List Nat) (k : Nat) (l : List Oper) (seen : Array Bool) (a : Act) (w w1 : World), (∀ j, l[j]? = ops[k + j]?) → k + l.length = ops.size →
    (∀ n, k ≤ n → SegInv md ops k n seen) → segB md ops ns k seen = true → ExtC w w1 → Segs P ops Q ns k l a w → wpAny P md ops Q l.length seen a w1
  | [], k, l, seen, a, w, w1, hl, hk, inv, hB, hC, h => by
    simp only [segB, show ops.size - k = l.length by omega] at hB
    exact wpAny_of_quiet (Q := fun a' => ∀ W, ExtC w W → Q .normal a' W) (fun _ w' hw' h => h w' hw') _ _ _ _ hC (wpAnyQ_lex hsel l k seen a hl hB h)
  | n :: ns, k, l, seen, a, w, w1, hl, hk, inv, hB, hC, h => by
    simp only [segB, Bool.and_eq_true, decide_eq_true_eq] at hB
    obtain ⟨⟨⟨⟨hkn, hn⟩, hs⟩, hlt⟩, hB⟩ := hB
    have htl : (l.take (n - k)).length = n - k := by simp; omega
    have hh := headK_lex (P := P) (C := ExtC w) (R := fun a' => ∀ W, ExtC w W → Go.wpOp P ops Q n (fun a2 w2 => Segs P ops Q ns (n + 1) (l.drop (n + 1 - k)) a2 w2) a' W) hsel hs hlt hn (F := fun s => decide (Region.ready md ops s = [n]) && (List.range n).all (fun i => s.getD i false) && segB md ops ns (n + 1) (s.setIfInBounds n true))
      (fun s hF j hj => by
        simp only [Bool.and_eq_true, decide_eq_true_eq] at hF
        rw [hF.1.1] at hj
        have : j = n := by simpa using hj
        omega) (l.take (n - k)) k seen a (fun j hj => by rw [htl] at hj; rw [List.getElem?_take_of_lt hj]; exact hl j) (by rw [htl]; omega) (inv n hkn) (by rw [htl]; exact hB) h
    rw [htl] at hh
    have := any_of_headQ (Q := Q) (g := l.length - (n - k)) (fun seen' a' W hW hL => ?_) _ _ _ _ hC hh
    · rw [show n - k + (l.length - (n - k)) = l.length by omega] at this
      exact this
    · obtain ⟨inv', hF, hR⟩ := hL
      simp only [Bool.and_eq_true, decide_eq_true_eq] at hF
      obtain ⟨⟨hr, hall⟩, hsB⟩ := hF
      rw [show l.length - (n - k) = (l.length - (n - k) - 1) + 1 by omega]
      refine ⟨fun h0 => (by rw [hr] at h0; cases h0), fun i hi => ?_⟩
      have hin : i = n := by rw [hr] at hi; simpa using hi
      subst hin
      refine wpOp_mono (fun a2 w2 h2 => ?_) (hR W hW)
      have hlen : (l.drop (i + 1 - k)).length = l.length - (i - k) - 1 := by simp; omega
      have := any_of_segs hsel ns (i + 1) (l.drop (i + 1 - k)) (seen'.setIfInBounds i true) a2 w2 w2 (fun j => by rw [List.getElem?_drop, hl]; congr 1; omega) (by rw [hlen]; omega) (fun m hm => ?_) hsB ⟨⟨w2, Below.refl _ _⟩, rfl⟩ h2
      · rw [hlen] at this; exact this
      · have hsz : i < seen'.size := by rw [inv'.inv.size]; exact hn
        refine ⟨⟨by simp [inv'.inv.size], fun j oj hj hlj e he hb => ?_, fun t ht ht2 => by rw [getD_set_ne true (by omega)]; exact inv'.inv.tail t (by omega) ht2⟩, fun j hj => ?_⟩
        · by_cases hij : i = j
          · subst hij
            obtain ⟨_, oi, hoi, hall2⟩ := mem_ready.1 hi
            have : oj = oi := Option.some.inj (hj.symm.trans hoi)
            subst this
            have h3 := hall2 e he hb
            by_cases hie : i = e.on
            · rw [← hie]; simp [hsz]
            · rw [getD_set_ne false hie]; exact h3
          · rw [getD_set_ne false hij] at hlj
            have h3 := inv'.inv.closed j oj hj hlj e he hb
            by_cases hie : i = e.on
            · rw [← hie]; simp [hsz]
            · rw [getD_set_ne false hie]; exact h3
        · by_cases hij : i = j
          · subst hij; simp [hsz]
          · rw [getD_set_ne false hij]
            exact List.all_eq_true.1 hall j (List.mem_range.2 (by omega))

/-- The region, in segments; ns: the operations that may write. -/
theorem wp_region_segs {id : Nat} {Q : Exit → Act → World → Prop} {a : Act} {w : World} {l : List Oper} (ns : List Nat) (hm : P.follows .mixedOrders = true) (hsel : Region.noSelect l.toArray = true) (hB : segB .any l.toArray ns 0 (Array.replicate l.toArray.size false) = true)
    (h : Segs P l.toArray Q ns 0 l a w) : (Code.region id l.toArray true).wp P Q a w := by
  refine wp_region_any hm ?_
  have := any_of_segs (P := P) (md := .any) (Q := Q) hsel ns 0 l (Array.replicate l.toArray.size false) a w w.drew (fun j => by simp) (by simp) (fun n _ => ?_) hB ⟨⟨_, (Below.refl _ _).drew⟩, rfl⟩ h
  · simpa using this
  · exact ⟨⟨by simp, fun j oj _ hl => by rw [getD_replicate_false] at hl; exact absurd hl (by simp), fun t _ ht => getD_in (by simpa using ht) (getD_replicate_false _ _)⟩, fun i hi => by omega⟩
/-- The operation that may write is a call. -/
theorem seg_call {Q : Exit → Act → World → Prop} {n : Nat} {K : Act → World → Prop} {o : Oper} {a : Act} {w : World} (hi : ops[n]? = some o) (hw : Region.wanted o (yielded ops a.tmps) = true) (f : FuncId) (args : Array Value) (hrun : (execOp a.eval o).run P w = .ok (.enter f args) w)
    (h : Calls P f args w fun e w' => ∃ v, e = .returned v ∧ K (a.put o.dst v) w') : Go.wpOp P ops Q n K a w := by
  unfold Go.wpOp
  simp only [hi]
  rw [if_pos hw]
  left
  unfold Oper.wp
  rw [hrun]
  simp only [Oper.upon]
  refine h.mono fun e w' ⟨v, he, ht⟩ => ?_
  subst he
  exact ht
/-- .. it is passed by. -/
theorem seg_skip {Q : Exit → Act → World → Prop} {n : Nat} {K : Act → World → Prop} {o : Oper} {a : Act} {w : World} (hi : ops[n]? = some o) (hw : Region.wanted o (yielded ops a.tmps) = false) (h : K (a.put o.dst undef) w) : Go.wpOp P ops Q n K a w := by
  unfold Go.wpOp
  simp only [hi]
  rw [hw]
  simpa using h
end
end Go.Proofs.Yteofdldlmmkgbaa

/-
  What is done in both worlds, one behind the other.
-/
namespace Go.Proofs.Yteofdldlmmkgbaa
open Go.RowKit Go.Maps
set_option linter.unusedVariables false

theorem hcell {w : World} {q : Nat} {cs : Array Value} {T : TypeId} (h : w.heap[q]? = some (.cells cs T (0, 0))) (o : Nat) : w.cell? ⟨q, o, none⟩ = cs[o]? := by unfold World.cell?; simp only; rw [h]; rfl
theorem hfrz {w : World} {q : Nat} {cs : Array Value} {T : TypeId} (h : w.heap[q]? = some (.cells cs T (0, 0))) (o : Nat) : w.frozen? ⟨q, o, none⟩ = false := by simp [World.frozen?, h]
theorem WS.of {w0 w w' : World} {B : WB} {V : WV} {s s' : CS} {S : Nat → Prop} (h : WS w0 w B V s) (hS : Cells w w0.heap.size B.cb s S) (hA : Acc w w0.heap.size B.cb s' S w') : WS w0 w' B V s' ∧ Fr wTy true w w' := by
  have hk : Keeps S w w' := by obtain ⟨S', h1, h2, h3⟩ := hA; exact h2
  exact h.acc (Own.acc hS h.below hA) (hA.rest hS) hk.size
section
variable {w0 w : World} {B : WB} {V : WV} {s : CS} (h : WS w0 w B V s) (hr : s.room) (a : Int) (ha : (Lit.int .u64 a).wf = true)
include h hr ha
theorem WS.load : Calls Try.prog 120 #[.pointer (some ⟨B.cb, 0, none⟩), .int .u64 a] w fun e w' => e = .returned (.int .u64 (s.val a)) ∧ WS w0 w' B V (s.acc 1 a (s.val a)) ∧ Fr wTy true w w' := by
  obtain ⟨⟨S, hS⟩, hB⟩ := h.own
  exact (load_any w _ B.cb s S hS a ha hr.1 hr.2 hB.size).mono fun e w' ⟨he, hA⟩ => ⟨he, h.of hS hA⟩
theorem WS.store (v : Int) (hv : (Lit.int .u64 v).wf = true) : Calls Try.prog 83 #[.pointer (some ⟨B.cb, 0, none⟩), .int .u64 a, .int .u64 v] w fun e w' => e = .returned (.int .u64 (s.val a)) ∧ WS w0 w' B V (s.acc 2 a v) ∧ Fr wTy true w w' := by
  obtain ⟨⟨S, hS⟩, hB⟩ := h.own
  exact (store_any w _ B.cb s S hS a v ha hv hr.1 hr.2 hB.size).mono fun e w' ⟨he, hA⟩ => ⟨he, h.of hS hA⟩
theorem WS.add (v : Int) : Calls Try.prog 22 #[.pointer (some ⟨B.cb, 0, none⟩), .int .u64 a, .int .u64 v] w fun e w' => e = .returned (.int .u64 (s.val a)) ∧ WS w0 w' B V (s.acc 4 a (wu (s.val a + v))) ∧ Fr wTy true w w' := by
  obtain ⟨⟨S, hS⟩, hB⟩ := h.own
  exact (add_any w _ B.cb s S hS a v ha hr.1 hr.2 hB.size).mono fun e w' ⟨he, hA⟩ => ⟨he, h.of hS hA⟩
theorem WS.cas (x y : Int) (hy : (Lit.int .u64 y).wf = true) : Calls Try.prog 79 #[.pointer (some ⟨B.cb, 0, none⟩), .int .u64 a, .int .u64 x, .int .u64 y] w fun e w' => e = .returned (.tuple #[.int .u64 (s.val a), .bool (s.val a == x)]) ∧
    WS w0 w' B V (s.acc 3 a (if s.val a = x then y else s.val a)) ∧ Fr wTy true w w' := by
  obtain ⟨⟨S, hS⟩, hB⟩ := h.own
  exact (cas_any w _ B.cb s S hS a x y ha hy hr.1 hr.2 hB.size).mono fun e w' ⟨he, hA⟩ => ⟨he, h.of hS hA⟩
omit hr in
theorem WS.peek : Calls Try.prog 27 #[.pointer (some ⟨B.cb, 0, none⟩), .int .u64 a] w fun e w' => e = .returned (.int .u64 (s.val a)) ∧ w' = w := peek_own h.own a ha
end
theorem WS.c0 {w0 w : World} {B : WB} {V : WV} {s : CS} (h : WS w0 w B V s) : w.cell? ⟨B.wb, 0, none⟩ = some (.pointer (some ⟨B.cb, 0, none⟩)) := (h.cell 0).trans (val_at B V h.tkl).1
theorem far_rooms {s : CS} {x : RS} {m : Nat} (hf : Far s x m) (ha : Alike s x) (hm : m ≤ 90000) : s.room ∧ x.room := by
  obtain ⟨h1, h2, h3⟩ := hf
  refine ⟨CS.room_of m ⟨h1, h2⟩ (by unfold lim; omega), by omega, ?_⟩
  rw [← ha.cnt]; omega
def pairV (B R : WB) : Value := .agg #[.pointer (some ⟨B.wb, 0, none⟩), .pointer (some ⟨R.wb, 0, none⟩)]

set_option maxRecDepth 10000 in
set_option maxHeartbeats 1000000 in
theorem pstore_any {w0 w : World} {B R : WB} {V : WV} {s : CS} {x : RS} (h : Pr w0 w B R V s x) (m : Nat) (hf : Far s x m) (hm : m ≤ 90000) (a v : Int) (ha : (Lit.int .u64 a).wf = true) (hv : (Lit.int .u64 v).wf = true) :
    Calls Try.prog 36 #[.agg #[.pointer (some ⟨B.wb, 0, none⟩), .pointer (some ⟨R.wb, 0, none⟩)], .agg #[.int .u64 a, .int .u64 v]] w fun e w' => e = .returned (.tuple #[]) ∧ Pr w0 w' B R V (s.acc 2 a v) (x.acc 2 a v) ∧ Fr wrTy true w w' := by
  obtain ⟨w1, hw1⟩ : ∃ w1, w1 = (w.alloc (.cells #[.pointer (some ⟨B.wb, 0, none⟩), .pointer (some ⟨R.wb, 0, none⟩)] 44)).alloc (.cells #[.int .u64 a, .int .u64 v] 58) := ⟨_, rfl⟩
  have hB1 : Below w.heap.size w w1 := by rw [hw1]; exact ((Below.refl _ _).alloc (Nat.le_refl _) _).alloc (by simp) _
  have hq1 : w1.heap[w.heap.size]? = some (.cells #[.pointer (some ⟨B.wb, 0, none⟩), .pointer (some ⟨R.wb, 0, none⟩)] 44 (0, 0)) := by rw [hw1]; exact heap_alloc_old (heap_alloc_new w _)
  have hq2 : w1.heap[w.heap.size + 1]? = some (.cells #[.int .u64 a, .int .u64 v] 58 (0, 0)) := by rw [hw1]; exact heap_alloc_at _ _ (by simp)
  have h1 := h.keep hB1
  obtain ⟨hr1, hr2⟩ := far_rooms hf h.al hm
  have hst : ∀ W, Below w1.heap.size w1 W → Calls Try.prog 83 #[.pointer (some ⟨B.cb, 0, none⟩), .int .u64 a, .int .u64 v] W fun e w' => e = .returned (.int .u64 (s.val a)) ∧ WS w0 w' B V (s.acc 2 a v) ∧ Fr wTy true W w' := fun W hW => (h1.ws.keep hW).store hr1 a ha v hv
  have x0 := fun st : ExtW w1 => st.cell (hcell hq1 0)
  have x1 := fun st : ExtW w1 => st.cell (hcell hq2 0)
  have x2 := fun st : ExtW w1 => st.cell (hcell hq2 1)
  have x3 := fun st : ExtW w1 => st.cell h1.ws.c0
  have H := Lib.hid h1; have HS := Lib.hid hst; have HQ1 := Lib.hid hq1; have HQ2 := Lib.hid hq2; have HB1 := Lib.hid hB1; have HA := Lib.hid ha; have HV := Lib.hid hv; have HR := Lib.hid hr2; have HAL := Lib.hid h.al
  clear h h1 hf hst hq1 hq2 hB1 ha hv hr1 hr2
  go_enter Try.func36, Try.ntmps36
  go_wp2_with fail
  rw [← hw1]
  clear hw1
  refine wp_region_segs [9] (by kernel_rfl) (by kernel_rfl) (by kernel_rfl) ?_
  simp only [Segs, List.take_succ_cons, List.take_zero, List.drop_succ_cons, List.drop_zero]
  repeat (go_big_quiet_step (fail))
  refine wpQuiet_nil ?_
  rintro W ⟨⟨W2, hW⟩, rfl⟩
  clear x0 x1 x2 x3
  refine seg_call rfl (by kernel_rfl) 83 #[.pointer (some ⟨B.cb, 0, none⟩), .int .u64 a, .int .u64 v] (by kernel_rfl) ?_
  refine (HS.out _ hW).mono ?_
  rintro e w2 ⟨rfl, h2, f2⟩
  refine ⟨_, rfl, ?_⟩
  have hq1 := f2.cells _ _ _ _ ((hW.block _ (Array.getElem?_eq_some_iff.1 HQ1.out).1).trans HQ1.out) rfl
  have hq2 := f2.cells _ _ _ _ ((hW.block _ (Array.getElem?_eq_some_iff.1 HQ2.out).1).trans HQ2.out) rfl
  have hrd := (H.out.rd.keep hW).byw f2 h2.below
  have F2 : Hid (Fr wrTy true w w2) := ((below_fr HB1.out _ _).trans (below_fr hW _ _)).trans (wr_of_w f2)
  have H2 := Lib.hid h2; have HRD := Lib.hid hrd; have HQ3 := Lib.hid hq1; have HQ4 := Lib.hid hq2
  clear hW h2 f2 hrd hq1 hq2
  refine wpQuiet_nil ?_
  rintro W3 ⟨⟨W4, hW4⟩, rfl⟩
  have hq1 := (hW4.block _ (Array.getElem?_eq_some_iff.1 HQ3.out).1).trans HQ3.out
  have hq2 := (hW4.block _ (Array.getElem?_eq_some_iff.1 HQ4.out).1).trans HQ4.out
  have y0 := hcell hq1 1
  have y1 := hcell hq2 0
  have y2 := hcell hq2 1
  have hrs := rwstore (HRD.out.keep hW4) HR.out a HA.out v HV.out
  have H3 := Lib.hid (H2.out.keep hW4); have F3 : Hid (Fr wrTy true w W3) := F2.out.trans (below_fr hW4 _ _)
  clear hq1 hq2 hW4
  go_wp2_with (go_at_call 84; refine hrs.mono ?_; rintro e w5 ⟨rfl, h5, f5⟩)
  go_end0
  exact ⟨rfl, ⟨H3.out.byr f5 h5.below, h5, HAL.out.acc 2 a v⟩, F3.out.trans (wr_of_r f5)⟩

theorem WS.item {w0 w : World} {B : WB} {V : WV} {s : CS} (h : WS w0 w B V s) (y : Itm) (hl : V.its.length < 1048576) : Calls Try.prog 23 #[.pointer (some ⟨B.ib, 0, none⟩), .agg #[.string (y).key, .string (y).val, .int .u32 (y).flags, .int .u64 (y).id, .int .i64 (y).dies, .int .i64 (y).gen]] w fun e w' =>
    e = .returned (.tuple #[.int .i64 (V.its.length + 1 : Nat), .int .i64 0]) ∧ WS w0 w' B { V with its := V.its ++ [y] } s ∧ Fr wTy true w w' := by
  obtain ⟨S, hA⟩ := h.ar
  refine (add_lit y _ B.ib V.its S w hA h.below.size hl).mono fun e w' ⟨he, S', h1, h2, h3⟩ => ⟨he, ?_⟩
  have hB : Below w0.heap.size w0 w' := keeps_below h2 h.below h.below.size fun k hk => (hA.fp k hk).1
  have hf : Fr (fun T => T == 157 || T == 158 || T == 160) false w w' := keeps_fr h2 _ _ fun k hk => by
    obtain ⟨cs, T, e1, e2⟩ := hA.ty k hk
    exact ⟨cs, T, _, e1, by rcases e2 with rfl | rfl | rfl <;> rfl⟩
  refine ⟨⟨h.own.fr hf hB rfl rfl, hf.cells _ _ _ _ h.blk rfl, h.lo, ⟨S', h1⟩, h.nt.fr hf rfl rfl, h.tkl⟩, hf.mono (fun T hT => ?_) (fun h => by cases h)⟩
  unfold wTy at hT; simp only [Bool.or_eq_false_iff] at hT
  simp only [Bool.or_eq_false_iff]
  exact ⟨⟨hT.1.1.1.1.2, hT.1.1.1.2⟩, hT.1.1.2⟩
theorem RD.item {w0 w : World} {B : WB} {V : WV} {x : RS} (h : RD w0 w B V x) (y : Itm) (hl : V.its.length < 1048576) : Calls Try.prog 104 #[.pointer (some ⟨B.ib, 0, none⟩), .agg #[.string (y).key, .string (y).val, .int .u32 (y).flags, .int .u64 (y).id, .int .i64 (y).dies, .int .i64 (y).gen]] w fun e w' =>
    e = .returned (.tuple #[.int .i64 (V.its.length + 1 : Nat), .int .i64 0]) ∧ RD w0 w' B { V with its := V.its ++ [y] } x ∧ Fr rTy false w w' := by
  obtain ⟨S, hA⟩ := h.ar
  obtain ⟨lv, hr⟩ := h.ref
  refine (iradd_any y _ B.ib _ V.its S w hA h.below.size rfl hl).mono fun e w' ⟨he, S', h1, h2, h3⟩ => ⟨he, ?_⟩
  have hB : Below w0.heap.size w0 w' := keeps_below h2 h.below h.below.size fun k hk => (hA.fp k hk).1
  have hf : Fr (fun T => T == 131 || T == 61) false w w' := keeps_fr h2 _ _ fun k hk => by
    obtain ⟨cs, T, e1, e2⟩ := hA.ty k hk
    exact ⟨cs, T, _, e1, by rcases e2 with rfl | rfl <;> rfl⟩
  refine ⟨⟨hB, ⟨lv, hf.cells _ _ _ _ hr.hdr rfl, hr.lo, own_fr hr.row hf rfl, hr.wf⟩, hf.cells _ _ _ _ h.blk rfl, h.lo, ⟨S', h1⟩, h.nt.fr hf rfl rfl, h.tkl⟩, hf.mono (fun T hT => ?_) id⟩
  unfold rTy at hT; simp only [Bool.or_eq_false_iff] at hT
  simp only [Bool.or_eq_false_iff]
  exact ⟨hT.1.1.1.2, hT.1.1.2⟩

set_option maxRecDepth 10000 in
set_option maxHeartbeats 1000000 in
theorem pitem_any {w0 w : World} {B R : WB} {V : WV} {s : CS} {x : RS} (h : Pr w0 w B R V s x) (y : Itm) (hl : V.its.length < 1048576) :
    Calls Try.prog 65 #[.agg #[.pointer (some ⟨B.wb, 0, none⟩), .pointer (some ⟨R.wb, 0, none⟩)], .agg #[.string (y).key, .string (y).val, .int .u32 (y).flags, .int .u64 (y).id, .int .i64 (y).dies, .int .i64 (y).gen]] w fun e w' => e = .returned (.tuple #[]) ∧ Pr w0 w' B R { V with its := V.its ++ [y] } s x ∧ Fr wrTy true w w' := by
  obtain ⟨w1, hw1⟩ : ∃ w1, w1 = (w.alloc (.cells #[.pointer (some ⟨B.wb, 0, none⟩), .pointer (some ⟨R.wb, 0, none⟩)] 44)).alloc (.cells y.cells.toArray 61) := ⟨_, rfl⟩
  have hB1 : Below w.heap.size w w1 := by rw [hw1]; exact ((Below.refl _ _).alloc (Nat.le_refl _) _).alloc (by simp) _
  have hq1 : w1.heap[w.heap.size]? = some (.cells #[.pointer (some ⟨B.wb, 0, none⟩), .pointer (some ⟨R.wb, 0, none⟩)] 44 (0, 0)) := by rw [hw1]; exact heap_alloc_old (heap_alloc_new w _)
  have hq2 : Box w1 (w.heap.size + 1) y := by unfold Box; rw [hw1]; exact heap_alloc_at _ _ (by simp)
  have h1 := h.keep hB1
  have hst : ∀ W, Below w1.heap.size w1 W → Calls Try.prog 23 #[.pointer (some ⟨B.ib, 0, none⟩), .agg #[.string (y).key, .string (y).val, .int .u32 (y).flags, .int .u64 (y).id, .int .i64 (y).dies, .int .i64 (y).gen]] W fun e w' => e = .returned (.tuple #[.int .i64 (V.its.length + 1 : Nat), .int .i64 0]) ∧ WS w0 w' B { V with its := V.its ++ [y] } s ∧ Fr wTy true W w' := fun W hW => (h1.ws.keep hW).item y hl
  obtain ⟨c0, c1, c2, c3, c4, c5⟩ := hq2.cells
  have x0 := fun st : ExtW w1 => st.cell (hcell hq1 0)
  have z0 := fun st : ExtW w1 => st.cell c0
  have z1 := fun st : ExtW w1 => st.cell c1
  have z2 := fun st : ExtW w1 => st.cell c2
  have z3 := fun st : ExtW w1 => st.cell c3
  have z4 := fun st : ExtW w1 => st.cell c4
  have z5 := fun st : ExtW w1 => st.cell c5
  have x3 := fun st : ExtW w1 => st.cell ((h1.ws.cell 1).trans (val_at B V h1.ws.tkl).2.1)
  have H := Lib.hid h1; have HS := Lib.hid hst; have HQ1 := Lib.hid hq1; have HQ2 := Lib.hid hq2; have HB1 := Lib.hid hB1; have HL := Lib.hid hl
  clear h h1 hst hq1 hq2 hB1 hl c0 c1 c2 c3 c4 c5
  go_enter Try.func65, Try.ntmps65
  go_wp2_with fail
  change Code.wp _ _ _ _ ((w.alloc (.cells #[.pointer (some ⟨B.wb, 0, none⟩), .pointer (some ⟨R.wb, 0, none⟩)] 44)).alloc (.cells y.cells.toArray 61))
  rw [← hw1]
  clear hw1
  refine wp_region_segs [6] (by kernel_rfl) (by kernel_rfl) (by kernel_rfl) ?_
  simp only [Segs, List.take_succ_cons, List.take_zero, List.drop_succ_cons, List.drop_zero]
  repeat (go_big_quiet_step (fail))
  refine wpQuiet_nil ?_
  rintro W ⟨⟨W2, hW⟩, rfl⟩
  clear x0 x3 z0 z1 z2 z3 z4 z5
  refine seg_call rfl (by kernel_rfl) 23 #[.pointer (some ⟨B.ib, 0, none⟩), .agg #[.string (y).key, .string (y).val, .int .u32 (y).flags, .int .u64 (y).id, .int .i64 (y).dies, .int .i64 (y).gen]] (by kernel_rfl) ?_
  refine (HS.out _ hW).mono ?_
  rintro e w2 ⟨rfl, h2, f2⟩
  refine ⟨_, rfl, ?_⟩
  simp only [List.getElem_toArray, List.getElem_cons_succ, List.getElem_cons_zero]
  go_frame
  have hq1 := f2.cells _ _ _ _ ((hW.block _ (Array.getElem?_eq_some_iff.1 HQ1.out).1).trans HQ1.out) rfl
  have hq2 : Box w2 (w.heap.size + 1) y := f2.cells _ _ _ _ (HQ2.out.below hW) rfl
  have hrd := (H.out.rd.keep hW).byw f2 h2.below
  have F2 : Hid (Fr wrTy true w w2) := ((below_fr HB1.out _ _).trans (below_fr hW _ _)).trans (wr_of_w f2)
  have H2 := Lib.hid h2; have HRD := Lib.hid hrd; have HQ3 := Lib.hid hq1; have HQ4 := Lib.hid hq2
  clear hW h2 f2 hrd hq1 hq2
  refine wpQuiet_nil ?_
  rintro W3 ⟨⟨W4, hW4⟩, rfl⟩
  have hq1 := (hW4.block _ (Array.getElem?_eq_some_iff.1 HQ3.out).1).trans HQ3.out
  have hq2 : Box W3 (w.heap.size + 1) y := HQ4.out.below hW4
  have hrd := HRD.out.keep hW4
  obtain ⟨c0, c1, c2, c3, c4, c5⟩ := hq2.cells
  have x0 := fun st : ExtW W3 => st.cell (hcell hq1 1)
  have z0 := fun st : ExtW W3 => st.cell c0
  have z1 := fun st : ExtW W3 => st.cell c1
  have z2 := fun st : ExtW W3 => st.cell c2
  have z3 := fun st : ExtW W3 => st.cell c3
  have z4 := fun st : ExtW W3 => st.cell c4
  have z5 := fun st : ExtW W3 => st.cell c5
  have x3 := fun st : ExtW W3 => st.cell ((hrd.cell 1).trans (val_at R V hrd.tkl).2.1)
  have H3 := Lib.hid (H2.out.keep hW4); have F3 : Hid (Fr wrTy true w W3) := F2.out.trans (below_fr hW4 _ _)
  have HR3 := Lib.hid hrd
  clear hq1 hq2 hW4 hrd c0 c1 c2 c3 c4 c5
  go_wp2_with fail
  refine wp_region_segs [6] (by kernel_rfl) (by kernel_rfl) (by kernel_rfl) ?_
  simp only [Segs, List.take_succ_cons, List.take_zero, List.drop_succ_cons, List.drop_zero]
  repeat (go_big_quiet_step (fail))
  refine wpQuiet_nil ?_
  rintro W5 ⟨⟨W6, hW6⟩, rfl⟩
  clear x0 x3 z0 z1 z2 z3 z4 z5
  refine seg_call rfl (by kernel_rfl) 104 #[.pointer (some ⟨R.ib, 0, none⟩), .agg #[.string (y).key, .string (y).val, .int .u32 (y).flags, .int .u64 (y).id, .int .i64 (y).dies, .int .i64 (y).gen]] (by kernel_rfl) ?_
  refine ((HR3.out.keep hW6).item y HL.out).mono ?_
  rintro e w7 ⟨rfl, h7, f7⟩
  refine ⟨_, rfl, ?_⟩
  have hws := (H3.out.keep hW6).byr f7 h7.below
  have F7 : Hid (Fr wrTy true w w7) := (F3.out.trans (below_fr hW6 _ _)).trans (wr_of_r f7)
  have H7 := Lib.hid h7; have HW7 := Lib.hid hws
  clear hW6 h7 f7 hws
  refine wpQuiet_nil ?_
  rintro W8 ⟨⟨W9, hW9⟩, rfl⟩
  have HF : Hid (Pr w0 W8 B R { V with its := V.its ++ [y] } s x ∧ Fr wrTy true w W8) := ⟨⟨HW7.out.keep hW9, H7.out.keep hW9, H.out.al⟩, F7.out.trans (below_fr hW9 _ _)⟩
  clear hW9
  go_wp2
  go_end0
  exact ⟨rfl, HF.out⟩

set_option maxRecDepth 10000 in
set_option maxHeartbeats 1000000 in
theorem WS.tick {w0 w : World} {B : WB} {V : WV} {s : CS} (h : WS w0 w B V s) (hr : s.room) : Calls Try.prog 29 #[.pointer (some ⟨B.wb, 0, none⟩)] w fun e w' => e = .returned (.tuple #[]) ∧ WS w0 w' B V (s.acc 3 8 (eTick (s.val 8))) ∧ Fr wTy true w w' := by
  have c0 := h.c0
  have x0 := fun st : ExtW w => st.cell c0
  have hk := peek_own h.own 8 (by decide)
  have hv := h.own.wf 8
  obtain ⟨x, hx⟩ : ∃ x, x = s.val 8 := ⟨_, rfl⟩
  have ht : ∀ st : ExtW w, Calls Try.prog 80 #[.int .u64 x] st.val fun e w' => e = .returned (.int .u64 (eTick x)) ∧ Below st.val.heap.size st.val w' := fun st => etick_any x (by rw [hx]; exact hv) st.val
  have HH := Lib.hid h
  have HR := Lib.hid hr
  rw [← hx] at hk ⊢
  have HX := Lib.hid hx
  clear h hr hv hx
  go_enter Try.func29, Try.ntmps29
  go_wp2_with (go_at_call 27; refine hk.mono ?_; rintro e w' ⟨rfl, rfl⟩)
  refine wp_region_ext_tail 7 (by kernel_rfl) (by kernel_rfl) ?_
  simp only [List.take_succ_cons, List.take_zero, List.drop_succ_cons, List.drop_zero]
  repeat (go_big_quiet_step ((go_at_call 80; with_reducible refine calls_ext (ht _))))
  refine wpQuiet_nil ?_
  rintro W ⟨⟨W2, hW⟩, rfl⟩
  clear x0 ht
  have hf := HH.out.keep hW
  have hs := HX.out
  have hcas := hf.cas HR.out 8 (by decide) x (eTick x) (etick_wf x)
  rw [← hs, if_pos rfl] at hcas
  have HW := Lib.hid (below_fr hW wTy true)
  clear hs hf hW
  go_wp2_with (go_at_call 79; refine hcas.mono ?_; rintro e w1 ⟨rfl, h1, h2⟩)
  go_end0
  exact ⟨rfl, h1, HW.out.trans h2⟩
theorem ptick_any {w0 w : World} {B R : WB} {V : WV} {s : CS} {x : RS} (h : Pr w0 w B R V s x) (m : Nat) (hf : Far s x m) (hm : m ≤ 90000) :
    Calls Try.prog 67 #[.agg #[.pointer (some ⟨B.wb, 0, none⟩), .pointer (some ⟨R.wb, 0, none⟩)]] w fun e w' => e = .returned (.tuple #[]) ∧ Pr w0 w' B R V (s.acc 3 8 (eTick (s.val 8))) (x.acc 3 8 (eTick (s.val 8))) ∧ Fr wrTy true w w' := by
  obtain ⟨w1, hw1⟩ : ∃ w1, w1 = w.alloc (.cells #[.pointer (some ⟨B.wb, 0, none⟩), .pointer (some ⟨R.wb, 0, none⟩)] 44) := ⟨_, rfl⟩
  have hB1 : Below w.heap.size w w1 := by rw [hw1]; exact (Below.refl _ _).alloc (Nat.le_refl _) _
  have hq1 : w1.heap[w.heap.size]? = some (.cells #[.pointer (some ⟨B.wb, 0, none⟩), .pointer (some ⟨R.wb, 0, none⟩)] 44 (0, 0)) := by rw [hw1]; exact heap_alloc_new w _
  have h1 := h.keep hB1
  obtain ⟨hr1, hr2⟩ := far_rooms hf h.al hm
  have x0 := hcell hq1 0
  have hv8 := congrFun h.al.val 8
  have ht := h1.ws.tick hr1
  have H := Lib.hid h1; have HQ1 := Lib.hid hq1; have HB1 := Lib.hid hB1; have HR := Lib.hid hr2; have HV := Lib.hid hv8
  clear h h1 hf hq1 hB1 hr1 hr2 hv8
  go_enter Try.func67, Try.ntmps67
  go_wp2_with fail
  rw [← hw1]
  clear hw1
  go_wp2_with (go_at_call 29; refine ht.mono ?_; rintro e w2 ⟨rfl, h2, f2⟩; have hq2 := f2.cells _ _ _ _ HQ1.out rfl; have y0 := hcell hq2 1; clear x0 hq2; have HRD := Lib.hid (H.out.rd.byw f2 h2.below); have H2 := Lib.hid h2; have F2 := Lib.hid (wr_of_w f2); clear h2 f2)
  have hrt := rwtick HRD.out HR.out
  rw [← HV.out] at hrt
  go_wp2_with (go_at_call 112; refine hrt.mono ?_; rintro e w3 ⟨rfl, h3, f3⟩)
  go_end0
  exact ⟨rfl, ⟨H2.out.byr f3 h3.below, h3, H.out.al.acc _ _ _⟩, ((below_fr HB1.out _ _).trans F2.out).trans (wr_of_r f3)⟩
end Go.Proofs.Yteofdldlmmkgbaa

/-
  Four tags in a word: the plain arithmetic (no program in sight).
-/
namespace Go.Proofs.Yteofdldlmmkgbaa.TagPure
open Go.RowKit

/-- The tag of slot i of the word x. -/
def tg (x : Int) (i : Nat) : Int := x / 256 ^ i % 256
/-- The word with a tag put at slot i. -/
def put (x : Int) (i : Nat) (t : Int) : Int := x - tg x i * 256 ^ i + t * 256 ^ i

theorem nat_put (k x t : Nat) (hk : k ≤ 56) (hx : x < 2 ^ 64) (ht : t < 2 ^ 8) :
    (x &&& (2 ^ k * (2 ^ 8 * (2 ^ (56 - k) - 1) + 0) + (2 ^ k - 1))) ||| (t * 2 ^ k) = 2 ^ k * (2 ^ 8 * (x / 2 ^ (k + 8)) + t) + x % 2 ^ k := by
  have hlo : x % 2 ^ k < 2 ^ k := Nat.mod_lt _ (Nat.two_pow_pos k)
  have hlo' : 2 ^ k - 1 < 2 ^ k := by have := Nat.two_pow_pos k; omega
  apply Nat.eq_of_testBit_eq
  intro j
  rw [Nat.testBit_or, Nat.testBit_and, Nat.testBit_mul_two_pow, Nat.testBit_two_pow_mul_add _ hlo, Nat.testBit_two_pow_mul_add _ hlo',
    Nat.testBit_two_pow_mul_add _ ht, Nat.testBit_two_pow_mul_add _ (by decide : (0 : Nat) < 2 ^ 8)]
  by_cases h1 : j < k
  · have : ¬ k ≤ j := by omega
    simp [h1, this, Nat.testBit_mod_two_pow, Nat.testBit_two_pow_sub_one]
  · have h1' : k ≤ j := by omega
    by_cases h2 : j - k < 8
    · simp [h1, h1', h2]
    · have e : Nat.testBit t (j - k) = false := Nat.testBit_lt_two_pow (Nat.lt_of_lt_of_le ht (Nat.pow_le_pow_right (by decide) (by omega)))
      have e2 : Nat.testBit (x / 2 ^ (k + 8)) (j - k - 8) = Nat.testBit x j := by
        rw [Nat.testBit_div_two_pow]; congr 1; omega
      simp only [h1, h2, if_false, e, e2, Bool.and_false, Bool.or_false, Nat.testBit_two_pow_sub_one]
      by_cases h3 : j < 64
      · have : j - k - 8 < 56 - k := by omega
        simp [this]
      · have : Nat.testBit x j = false := Nat.testBit_lt_two_pow (Nat.lt_of_lt_of_le hx (Nat.pow_le_pow_right (by decide) (by omega)))
        simp [this]

theorem int_put (x t : Int) (u k C : Nat) (hu : u = 2 ^ k) (hk : k ≤ 56) (hC : C = 2 ^ k * (2 ^ 8 * (2 ^ (56 - k) - 1) + 0) + (2 ^ k - 1)) (hC' : (18446744073709551615 - 255 * u : Nat) = C) (hu' : u ≤ 72057594037927936)
    (h0 : 0 ≤ x) (h1 : x < 18446744073709551616) (t0 : 0 ≤ t) (t1 : t ≤ 255) :
    bits .or .u64 (bits .andNot .u64 x (255 * (u : Int))) (t * (u : Int)) = x - x / (u : Int) % 256 * (u : Int) + t * (u : Int) := by
  obtain ⟨n, rfl⟩ := Int.eq_ofNat_of_zero_le h0
  obtain ⟨m, rfl⟩ := Int.eq_ofNat_of_zero_le t0
  have hm : m * u ≤ 255 * 72057594037927936 := Nat.mul_le_mul (by omega) hu'
  rw [u64_andNot _ _ (by omega) (by omega) (by omega) (by omega)]
  have e1 : (255 * (u : Int)).toNat = 255 * u := by omega
  have e2 : ((m : Int) * (u : Int)) = ((m * u : Nat) : Int) := by simp
  rw [e1, e2, hC']
  simp only [Int.toNat_natCast]
  have hb : n &&& C < 18446744073709551616 := Nat.lt_of_le_of_lt Nat.and_le_left (by omega)
  rw [u64_or_nat _ _ hb (by omega), hC, hu, nat_put k n m hk (by omega) (by omega)]
  have hpos : 0 < 2 ^ k := Nat.two_pow_pos k
  have a := Nat.div_add_mod n (2 ^ k)
  have b := Nat.div_add_mod (n / 2 ^ k) 256
  have c : n / 2 ^ (k + 8) = n / 2 ^ k / 256 := by rw [Nat.pow_add, Nat.div_div_eq_div_mul]
  rw [c, show (2 : Nat) ^ 8 = 256 from rfl]
  generalize 2 ^ k = P at *
  generalize hq : n / P = q at *
  generalize hr : n % P = r at *
  generalize hs : q / 256 = s at *
  generalize hv : q % 256 = v at *
  have d : ((n : Int) / (P : Int)) % 256 = (v : Int) := by
    rw [← Int.natCast_ediv, hq]; omega
  rw [d]
  have f : (n : Int) = (P : Int) * (256 * (s : Int) + (v : Int)) + (r : Int) := by
    have a' := a; rw [← b] at a'; rw [← a', Int.natCast_add, Int.natCast_mul, Int.natCast_add, Int.natCast_mul]; rfl
  rw [f]
  rw [Int.natCast_add, Int.natCast_mul, Int.natCast_add, Int.natCast_mul, show ((256 : Nat) : Int) = 256 from rfl]
  rw [Int.mul_add, Int.mul_add, Int.mul_comm (v : Int) (P : Int), Int.natCast_mul m P, Int.mul_comm (m : Int) (P : Int)]
  omega

theorem put0 (x t : Int) (h0 : 0 ≤ x) (h1 : x < 18446744073709551616) (t0 : 0 ≤ t) (t1 : t ≤ 255) :
    bits .or .u64 (bits .andNot .u64 x 255) t = put x 0 t := by
  have := int_put x t 1 0 18446744073709551360 rfl (by decide) (by decide) (by decide) (by decide) h0 h1 t0 t1
  simpa [put, tg] using this
theorem put1 (x t : Int) (h0 : 0 ≤ x) (h1 : x < 18446744073709551616) (t0 : 0 ≤ t) (t1 : t ≤ 255) :
    bits .or .u64 (bits .andNot .u64 x 65280) (t * 256) = put x 1 t := by
  have := int_put x t 256 8 18446744073709486335 rfl (by decide) (by decide) (by decide) (by decide) h0 h1 t0 t1
  simpa [put, tg] using this
theorem put2 (x t : Int) (h0 : 0 ≤ x) (h1 : x < 18446744073709551616) (t0 : 0 ≤ t) (t1 : t ≤ 255) :
    bits .or .u64 (bits .andNot .u64 x 16711680) (t * 65536) = put x 2 t := by
  have := int_put x t 65536 16 18446744073692839935 rfl (by decide) (by decide) (by decide) (by decide) h0 h1 t0 t1
  simpa [put, tg] using this
theorem put3 (x t : Int) (h0 : 0 ≤ x) (h1 : x < 18446744073709551616) (t0 : 0 ≤ t) (t1 : t ≤ 255) :
    bits .or .u64 (bits .andNot .u64 x 4278190080) (t * 16777216) = put x 3 t := by
  have := int_put x t 16777216 24 18446744069431361535 rfl (by decide) (by decide) (by decide) (by decide) h0 h1 t0 t1
  simpa [put, tg] using this
theorem and255 (x : Int) (h0 : 0 ≤ x) (h1 : x < 18446744073709551616) : bits .and .u64 x 255 = x % 256 := by
  obtain ⟨n, rfl⟩ := Int.eq_ofNat_of_zero_le h0
  rw [u64_and _ _ (by omega) h1 (by omega) (by omega)]
  simp only [Int.toNat_natCast, show (255 : Int).toNat = 255 from rfl, nat_mask8]
  omega
def tagOf (x s : Int) : Int := if 0 ≤ s ∧ s < 4 then tg x s.toNat else 0
def withOf (x s t : Int) : Int := if (0 ≤ s ∧ s < 4) ∧ 0 ≤ t ∧ t ≤ 255 then put x s.toNat t else x
end Go.Proofs.Yteofdldlmmkgbaa.TagPure
