/-
  Texts of this prover, merged: OwnRow, Grown, RefWorld, Segs, PairDo, NotesAll, NoteAdd, Addr, TagPure, TagW, RefPlaces, PairPut, Begin0, Tickets, WorldNote, RefNote.
-/
import Derived.Test.YtmakjfeepmiggaaGreatLib
import Derived.Test.YtmakjfeepmiggaaGreatFrame
import Derived.Test.YtmakjfeepmiggaaGreatWorldDo
import Derived.Test.YtmakjfeepmiggaaGreatRegion
import Derived.Test.YtmakjfeepmiggaaGreatItemsLaw
import Derived.Test.YtmakjfeepmiggaaGreatVer
import Derived.Test.YtmakjfeepmiggaaGreatStripes
import Derived.Deep.AppendLies
import Derived.Maps.RangeWalk
import Derived.Laws.EntriesVeiled
import Derived.Deep.DeepCutAuto
import Derived.WalkKit
import Derived.Laws.AppendOwnNone
import Derived.Deep.Cut
import Derived.IntWalk
import Derived.Deep.RegionHeld3
/-
  Rows that the call made.
-/
namespace Go.Proofs.YtmakjfeepmiggaaGreat
open Go.RowKit
set_option linter.unusedVariables false

/-- A row of pointers that the call made. -/
theorem own_lit (w : World) (base e : Nat) (xs : List Value) (hb : base ≤ w.heap.size) (hn : xs.length ≤ maxLen) : (w.alloc (.cells xs.toArray e)).ownsRow base e 1 (.slice (some ⟨w.heap.size, 0, none⟩) xs.length xs.length) xs.length xs :=
  ⟨by simp, .inr ⟨_, _, _, rfl, hb, heap_alloc_new w _, Nat.le_refl _, hn, by simp, by simp⟩⟩
theorem own_at {w : World} {base e n : Nat} {v : Value} {xs : List Value} (h : w.ownsRow base e 1 v n xs) (i : Nat) (hi : i < n) : ∃ g cap x, v = .slice (some ⟨g, 0, none⟩) n cap ∧ xs[i]? = some x ∧ w.cell? ⟨g, i, none⟩ = some x ∧ base ≤ g := by
  obtain ⟨h1, ⟨rfl, h0⟩ | ⟨g, cap, cur, rfl, hb, hg, hn, hm, hs, ht⟩⟩ := h
  · omega
  · have hx : i < xs.length := by omega
    refine ⟨g, cap, xs[i], rfl, List.getElem?_eq_getElem hx, ?_, hb⟩
    have e1 : xs[i]? = (cur.toList.take (n * 1))[i]? := by rw [ht]
    rw [List.getElem?_take, if_pos (by omega), List.getElem?_eq_getElem hx] at e1
    unfold World.cell?; simp only; rw [hg]
    simpa using e1.symm
end Go.Proofs.YtmakjfeepmiggaaGreat

/-
  A row that has grown, in a frame by types.
-/
namespace Go.Proofs.YtmakjfeepmiggaaGreat
open Go.RowKit
set_option linter.unusedVariables false

theorem own_sl2 {w : World} {base e size n : Nat} {v : Value} {xs : List Value} (h : w.ownsRow base e size v n xs) : ∃ a cap, v = .slice a n cap := by
  obtain ⟨-, ⟨rfl, rfl⟩ | ⟨g, cap, cur, rfl, -⟩⟩ := h
  · exact ⟨none, 0, rfl⟩
  · exact ⟨_, cap, rfl⟩
theorem grown_ty {w w' : World} {base e size n : Nat} {v : Value} {xs : List Value} (h : w.ownsRow base e size v n xs) (hg : w.grownBy w' v.ownBlock) : Fr (fun T => T == e) false w w' := by
  obtain ⟨-, ⟨rfl, -⟩ | ⟨g, cap, cur, rfl, -, hb, -⟩⟩ := h
  · exact ⟨hg.size, fun k cs T fr hk _ => (hg.block k (Array.getElem?_eq_some_iff.1 hk).1 (fun c => by simp [Value.ownBlock] at c)).trans hk, fun _ k es cl hk => (hg.block k (Array.getElem?_eq_some_iff.1 hk).1 (fun c => by simp [Value.ownBlock] at c)).trans hk⟩
  · refine ⟨hg.size, fun k cs T fr hk hT => (hg.block k (Array.getElem?_eq_some_iff.1 hk).1 (fun c => ?_)).trans hk, fun _ k es cl hk => (hg.block k (Array.getElem?_eq_some_iff.1 hk).1 (fun c => ?_)).trans hk⟩
    · simp only [Value.ownBlock, Option.some.injEq] at c
      subst c
      have := hb.symm.trans hk; simp only [Option.some.injEq, Obj.cells.injEq] at this
      rw [this.2.1] at hT; simp at hT
    · simp only [Value.ownBlock, Option.some.injEq] at c
      subst c
      have := hb.symm.trans hk; cases this
theorem grown_below {w0 w w' : World} {B : Nat} {base e size n : Nat} {v : Value} {xs : List Value} (h : w.ownsRow base e size v n xs) (hg : w.grownBy w' v.ownBlock) (hB : Below B w0 w) (hs : B ≤ w.heap.size) (hb : B ≤ base) : Below B w0 w' :=
  hB.grown hg hs fun k hk => by
    obtain ⟨-, ⟨rfl, -⟩ | ⟨g, cap, cur, rfl, hb2, -⟩⟩ := h
    · simp [Value.ownBlock] at hk
    · simp only [Value.ownBlock, Option.some.injEq] at hk; omega
theorem set_ty {w : World} {q T : Nat} {cs : Array Value} (h : w.heap[q]? = some (.cells cs T (0, 0))) (o : Nat) (v : Value) : Fr (fun X => X == T) false w (w.setCell ⟨q, o, none⟩ v) :=
  keeps_fr (setCell_keeps w q o v) _ _ fun k e => ⟨_, _, _, e ▸ h, by simp⟩
theorem set_below {w0 w : World} {B q : Nat} (hB : Below B w0 w) (hs : B ≤ w.heap.size) (hq : B ≤ q) (o : Nat) (v : Value) : Below B w0 (w.setCell ⟨q, o, none⟩ v) :=
  keeps_below (setCell_keeps w q o v) hB hs fun k e => e ▸ hq
theorem ty_or {K1 K2 : TypeId → Bool} {w w' w'' : World} (h1 : Fr K1 false w w') (h2 : Fr K2 false w' w'') : Fr (fun T => K1 T || K2 T) false w w'' :=
  (h1.mono (fun T h => by simp only [Bool.or_eq_false_iff] at h; exact h.1) id).trans (h2.mono (fun T h => by simp only [Bool.or_eq_false_iff] at h; exact h.2) id)
end Go.Proofs.YtmakjfeepmiggaaGreat

/-
  What is done in the document's world.
-/
namespace Go.Proofs.YtmakjfeepmiggaaGreat
open Go.RowKit Go.Maps
set_option linter.unusedVariables false

def RS.room (x : RS) : Prop := x.l.length ≤ 100000 ∧ x.cnt ≤ 1000000
theorem RD.lv {w0 w : World} {B : WB} {V : WV} {x : RS} (h : RD w0 w B V x) : w0.heap.size ≤ w.heap.size := h.below.size
theorem RD.c0 {w0 w : World} {B : WB} {V : WV} {x : RS} (h : RD w0 w B V x) : w.cell? ⟨B.wb, 0, none⟩ = some (.pointer (some ⟨B.cb, 0, none⟩)) := (h.cell 0).trans (val_at B V h.tkl).1

section
variable {w0 w : World} {B : WB} {V : WV} {x : RS} (h : RD w0 w B V x) (hr : x.room) (a : Int) (ha : (Lit.int .u64 a).wf = true)
include h hr ha
theorem rwload : Calls Tryz.prog 55 #[.pointer (some ⟨B.wb, 0, none⟩), .int .u64 a] w fun e w' => e = .returned (.int .u64 (rlook x.l a)) ∧ RD w0 w' B V (x.acc 1 a (rlook x.l a)) ∧ Fr rTy false w w' := by
  have c0 := h.c0
  obtain ⟨lv, hq⟩ := h.ref
  have hc := rload_any hq hr.1 hr.2 h.lv a ha
  have H := Lib.hid h
  clear h hq hr ha
  go_enter Tryz.func55, Tryz.ntmps55
  go_wp2_with (go_at_call 133; refine hc.mono ?_; rintro e w1 ⟨rfl, r1, k1⟩)
  go_ret
  exact ⟨rfl, H.out.acc r1 k1⟩
theorem rwstore (v : Int) (hv : (Lit.int .u64 v).wf = true) : Calls Tryz.prog 54 #[.pointer (some ⟨B.wb, 0, none⟩), .int .u64 a, .int .u64 v] w fun e w' => e = .returned (.int .u64 (rlook x.l a)) ∧ RD w0 w' B V (x.acc 2 a v) ∧ Fr rTy false w w' := by
  have c0 := h.c0
  obtain ⟨lv, hq⟩ := h.ref
  have hc := rstore_any hq hr.1 hr.2 h.lv a ha v hv
  have H := Lib.hid h
  clear h hq hr ha hv
  go_enter Tryz.func54, Tryz.ntmps54
  go_wp2_with (go_at_call 132; refine hc.mono ?_; rintro e w1 ⟨rfl, r1, k1⟩)
  go_ret
  exact ⟨rfl, H.out.acc r1 k1⟩
theorem rwadd (v : Int) : Calls Tryz.prog 216 #[.pointer (some ⟨B.wb, 0, none⟩), .int .u64 a, .int .u64 v] w fun e w' => e = .returned (.int .u64 (rlook x.l a)) ∧ RD w0 w' B V (x.acc 4 a (wu (rlook x.l a + v))) ∧ Fr rTy false w w' := by
  have c0 := h.c0
  obtain ⟨lv, hq⟩ := h.ref
  have hc := radd_any hq hr.1 hr.2 h.lv a ha v
  have H := Lib.hid h
  clear h hq hr ha
  go_enter Tryz.func216, Tryz.ntmps216
  go_wp2_with (go_at_call 229; refine hc.mono ?_; rintro e w1 ⟨rfl, r1, k1⟩)
  go_ret
  exact ⟨rfl, H.out.acc r1 k1⟩
theorem rwcas (u v : Int) (hv : (Lit.int .u64 v).wf = true) : Calls Tryz.prog 161 #[.pointer (some ⟨B.wb, 0, none⟩), .int .u64 a, .int .u64 u, .int .u64 v] w fun e w' => e = .returned (.tuple #[.int .u64 (rlook x.l a), .bool (rlook x.l a == u)]) ∧
    RD w0 w' B V (x.acc 3 a (if rlook x.l a = u then v else rlook x.l a)) ∧ Fr rTy false w w' := by
  have c0 := h.c0
  obtain ⟨lv, hq⟩ := h.ref
  have hc := rcas_any hq hr.1 hr.2 h.lv a ha u v hv
  have H := Lib.hid h
  clear h hq hr ha hv
  generalize (if rlook x.l a = u then v else rlook x.l a) = i at hc ⊢
  go_enter Tryz.func161, Tryz.ntmps161
  go_wp2_with (go_at_call 205; refine hc.mono ?_; rintro e w1 ⟨rfl, r1, k1⟩)
  go_ret2
  exact ⟨rfl, H.out.acc r1 k1⟩
omit hr ha in
theorem rwpeek : Calls Tryz.prog 130 #[.pointer (some ⟨B.wb, 0, none⟩), .int .u64 a] w fun e w' => e = .returned (.int .u64 (rlook x.l a)) ∧ w' = w := by
  have c0 := h.c0
  obtain ⟨lv, hq⟩ := h.ref
  have hc := rpeek_any w _ _ _ _ hq a
  clear h hq
  go_enter Tryz.func130, Tryz.ntmps130
  go_wp2_with (go_at_call 180; refine hc.mono ?_; rintro e w1 ⟨rfl, rfl⟩)
  go_ret
  exact ⟨rfl, rfl⟩
omit hr ha in
theorem rwsteps : Calls Tryz.prog 68 #[.pointer (some ⟨B.wb, 0, none⟩)] w fun e w' => e = .returned (.int .i64 x.cnt) ∧ w' = w := by
  have c0 := h.c0
  obtain ⟨lv, hq⟩ := h.ref
  have c1 : w.cell? ⟨B.cb, 1, none⟩ = some (.int .i64 x.cnt) := hq.cell 1
  clear h hq
  go_enter Tryz.func68, Tryz.ntmps68
  go_wp2
  go_ret
  exact ⟨rfl, rfl⟩
end

/-- The document's tick of a word. -/
theorem rtick_any (y : Int) (hy : (Lit.int .u64 y).wf = true) (w : World) : Calls Tryz.prog 162 #[.int .u64 y] w fun e w' => e = .returned (.int .u64 (eTick y)) ∧ w' = w := by
  have hb : 0 ≤ y ∧ y < 18446744073709551616 := by
    have hmin : IntKind.u64.min = 0 := rfl
    have hmax : IntKind.u64.max = 18446744073709551615 := rfl
    simp only [Lit.wf, Bool.and_eq_true, decide_eq_true_eq] at hy; omega
  have b0 : 0 ≤ eNow y ∧ eNow y < 16777216 := by unfold eNow; omega
  have b1 : 0 ≤ eAt y ∧ eAt y < 16777216 := by unfold eAt; omega
  have b2 : 0 ≤ eGen y ∧ eGen y < 65536 := by unfold eGen; omega
  have g0 : y / 16777216 / 16777216 = eGen y := by unfold eGen; omega
  have h1 : ∀ w, Calls Tryz.prog 206 #[.int .u64 y] w fun e w' => e = .returned (.int .i64 (eNow y)) ∧ w' = w := fun w => by
    have e0 : y % 16777216 = eNow y := rfl
    have e1 : wrap64 (eNow y) = eNow y := IntWalk.wrap64_in _ (by omega)
    generalize eNow y = n at *
    clear g0 b1 b2
    go_enter Tryz.func206, Tryz.ntmps206
    go_wp2
    go_ret
    exact ⟨rfl, rfl⟩
  have h2 : ∀ w, Calls Tryz.prog 207 #[.int .u64 y] w fun e w' => e = .returned (.int .i64 (eAt y)) ∧ w' = w := fun w => by
    have e0 : y / 16777216 % 16777216 = eAt y := rfl
    have e1 : wrap64 (eAt y) = eAt y := IntWalk.wrap64_in _ (by omega)
    generalize eAt y = n at *
    clear g0 b0 b2 h1
    go_enter Tryz.func207, Tryz.ntmps207
    go_wp2
    go_ret
    exact ⟨rfl, rfl⟩
  have h3 : ∀ w, Calls Tryz.prog 208 #[.int .u64 y] w fun e w' => e = .returned (.int .i64 (eGen y)) ∧ w' = w := fun w => by
    have e1 : wrap64 (eGen y) = eGen y := IntWalk.wrap64_in _ (by omega)
    generalize eGen y = n at *
    clear b0 b1 h1 h2
    go_enter Tryz.func208, Tryz.ntmps208
    go_wp2
    go_ret
    exact ⟨rfl, rfl⟩
  have h4 : ∀ n a g, (0 ≤ n ∧ n < 16777216) → (0 ≤ a ∧ a < 16777216) → (0 ≤ g ∧ g < 65536) → ∀ w, Calls Tryz.prog 209 #[.int .i64 n, .int .i64 a, .int .i64 g] w fun e w' => e = .returned (.int .u64 (eWord n a g)) ∧ w' = w := fun n a g hn ha hg w => by
    have e1 : (g * 16777216 + a) * 16777216 + n = eWord n a g := by unfold eWord; omega
    go_enter Tryz.func209, Tryz.ntmps209
    go_wp2
    go_ret
    exact ⟨ret_u64 (by rw [← e1]; omega), rfl⟩
  unfold eTick eNext
  clear hy g0 hb
  generalize eNow y = n at *
  generalize eAt y = a at *
  generalize eGen y = g at *
  go_enter Tryz.func162, Tryz.ntmps162
  go_wp2_with (first
    | (go_at_call 206; refine (h1 _).mono ?_; rintro e w' ⟨rfl, rfl⟩)
    | (go_at_call 207; refine (h2 _).mono ?_; rintro e w' ⟨rfl, rfl⟩)
    | (go_at_call 208; refine (h3 _).mono ?_; rintro e w' ⟨rfl, rfl⟩)
    | (go_at_call 209; refine (h4 _ _ _ (by omega) (by omega) (by omega) _).mono ?_; rintro e w' ⟨rfl, rfl⟩))
  all_goals go_ret
  all_goals (refine ⟨ret_u64 ?_, rfl⟩)
  all_goals (repeat' (split))
  all_goals (first | rfl | (exfalso; omega) | (unfold eWord; omega))

theorem rwtick {w0 w : World} {B : WB} {V : WV} {x : RS} (h : RD w0 w B V x) (hr : x.room) : Calls Tryz.prog 102 #[.pointer (some ⟨B.wb, 0, none⟩)] w fun e w' => e = .returned (.tuple #[]) ∧ RD w0 w' B V (x.acc 3 8 (eTick (rlook x.l 8))) ∧ Fr rTy false w w' := by
  have hv : (Lit.int .u64 (rlook x.l 8)).wf = true := by obtain ⟨lv, hq⟩ := h.ref; exact rlook_wf hq 8
  have hp := rwpeek h 8
  have ht := rtick_any _ hv
  have hc := rwcas h hr 8 (by decide) (rlook x.l 8) (eTick (rlook x.l 8)) (etick_wf _)
  rw [if_pos rfl] at hc
  clear h hr hv
  generalize rlook x.l 8 = y at *
  go_enter Tryz.func102, Tryz.ntmps102
  go_wp2_with (first
    | (go_at_call 130; refine hp.mono ?_; rintro e w1 ⟨rfl, hw⟩; obtain rfl := hw.symm; clear hp)
    | (go_at_call 162; refine (ht _).mono ?_; rintro e w1 ⟨rfl, hw⟩; obtain rfl := hw.symm; clear ht)
    | (go_at_call 161; refine hc.mono ?_; rintro e w2 ⟨rfl, h2, f2⟩))
  go_end0
  exact ⟨rfl, h2, f2⟩
end Go.Proofs.YtmakjfeepmiggaaGreat

/-
  A region that draws its order, in segments: what reads, or only makes memory, in whatever order; then one operation that may write, behind all of these and ahead of all others; and so on. One walk of the text's order serves every order.
-/
namespace Go.Proofs.YtmakjfeepmiggaaGreat
open Go.RowKit
set_option linter.unusedVariables false
section
variable {P : Program} {ops : Array Oper} {md : Region.Mode} {C : World → Prop}

/-- Each operation from k on ahead of n is waited for by a later one, up to n. -/
def sinkK (md : Region.Mode) (ops : Array Oper) (k n : Nat) : Bool := (List.range n).all fun i => decide (i < k) || (List.range (n + 1)).any fun j => decide (i < j) && Region.waitsFor md ops j i
/-- Each operation behind n waits for one from n on. -/
def lateB (md : Region.Mode) (ops : Array Oper) (n : Nat) : Bool :=
  (List.range ops.size).all fun t => decide (t ≤ n) || (match ops[t]? with | some o => o.after.any fun e => Region.binds md e && decide (n ≤ e.on) | none => true)

structure SegInv (md : Region.Mode) (ops : Array Oper) (k n : Nat) (seen : Array Bool) : Prop where
  inv : HeadInv md ops n seen
  head : ∀ i, i < k → seen.getD i false = true
theorem SegInv.set {k n i : Nat} {seen : Array Bool} (h : SegInv md ops k n seen) (hi : i ∈ Region.ready md ops seen) (hin : i < n) : SegInv md ops k n (seen.setIfInBounds i true) := by
  refine ⟨h.inv.set hi hin, fun j hj => ?_⟩
  by_cases hij : i = j
  · subst hij
    have := (mem_ready.1 hi).1
    have := h.head i hj
    have hs : i < seen.size := by
      rcases Nat.lt_or_ge i seen.size with c | c
      · exact c
      · simp [Array.getElem?_eq_none c] at this
    simp [hs]
  · rw [getD_set_ne false hij]; exact h.head j hj

theorem seg_waits {k n : Nat} {seen : Array Bool} (hs : sinkK md ops k n = true) (hl : lateB md ops n = true) (hn : n < ops.size) (inv : SegInv md ops k n seen) :
    ∀ (d i : Nat), n - i = d → i < n → seen.getD i true = false → ∀ t, n ≤ t → t ∉ Region.ready md ops seen := by
  intro d
  induction d using Nat.strongRecOn with
  | _ d ih =>
    intro i hd hi hun t ht hr
    obtain ⟨_, ot, hot, hall⟩ := mem_ready.1 hr
    have htlt : t < ops.size := (Array.getElem?_eq_some_iff.1 hot).1
    by_cases htn : t = n
    · subst htn
      have h1 := List.all_eq_true.1 hs i (List.mem_range.2 hi)
      simp only [Bool.or_eq_true, decide_eq_true_eq] at h1
      rcases h1 with h1 | h1
      · have := inv.head i h1
        rw [getD_both hun] at this; cases this
      obtain ⟨j, hj, hj2⟩ := List.any_eq_true.1 h1
      simp only [Bool.and_eq_true, decide_eq_true_eq] at hj2
      obtain ⟨oj, hoj, e, he, hb, hon⟩ := Region.waitsFor_spec hj2.2
      have hjle : j ≤ t := by have := List.mem_range.1 hj; omega
      by_cases hjt : j = t
      · subst hjt
        have : oj = ot := Option.some.inj (hoj.symm.trans hot)
        subst this
        have h2 := hall e he hb
        rw [hon, getD_both hun] at h2
        cases h2
      · cases hl : seen.getD j false with
        | true =>
          have h2 := inv.inv.closed j oj hoj hl e he hb
          rw [hon, getD_both hun] at h2
          cases h2
        | false =>
          have hjs : j < seen.size := by rw [inv.inv.size]; omega
          exact ih (t - j) (by omega) j rfl (by omega) (getD_in hjs hl) t (Nat.le_refl _) hr
    · have h1 := List.all_eq_true.1 hl t (List.mem_range.2 htlt)
      simp only [Bool.or_eq_true, decide_eq_true_eq, hot] at h1
      rcases h1 with h1 | h1
      · omega
      obtain ⟨e, he, hb⟩ := Array.any_eq_true'.1 h1
      simp only [Bool.and_eq_true, decide_eq_true_eq] at hb
      have h2 := hall e he hb.1
      rcases Nat.lt_or_ge e.on ops.size with c | c
      · have := inv.inv.tail e.on hb.2 c
        rw [getD_both this] at h2; cases h2
      · have : seen.size ≤ e.on := by rw [inv.inv.size]; exact c
        simp [Array.getElem?_eq_none this] at h2

theorem headK_take {k n i : Nat} {oi : Oper} {v : Value} {L : Array Bool → Act → Prop} (hi : ops[i]? = some oi) (hsel : ∀ (j : Nat) (o : Oper) cs b, ops[j]? = some o → o.op ≠ .select cs b)
    (hs : sinkK md ops k n = true) (hl : lateB md ops n = true) (hn : n < ops.size) (hin : i < n) (hdone : ∀ seen a, L seen a → ∀ j, j ∈ Region.ready md ops seen → n ≤ j) (f : Nat) :
    ∀ (seen : Array Bool) (a : Act), SegInv md ops k n seen →
      (∀ j oj, ops[j]? = some oj → j ≠ i → seen.getD j true = false → (∀ e, e ∈ oj.after → Region.binds md e = true → e.on ≠ i) → oi.apart ops oj = true) →
      i ∈ Region.ready md ops seen → YieldsIn P ops C oi v a → HeadQ P md ops C n L f (seen.setIfInBounds i true) (a.put oi.dst v) → HeadQ P md ops C n L (f + 1) seen a := by
  induction f with
  | zero =>
    intro seen a inv _ hr hy H
    have hun : seen.getD i true = false := (mem_ready.1 hr).1
    refine ⟨fun h => by rw [h] at hr; exact absurd hr (by simp), fun j hj => ?_⟩
    by_cases hjn : n ≤ j
    · exact absurd hj (seg_waits hs hl hn inv _ i rfl hin hun j hjn)
    refine ⟨by omega, ?_⟩
    by_cases hji : j = i
    · rw [hji]; exact hy.qOp hi H
    · exact absurd (hdone _ _ H j (ready_mono hj hji)) hjn
  | succ f ih =>
    intro seen a inv hfree hr hy H
    have hun : seen.getD i true = false := (mem_ready.1 hr).1
    refine ⟨fun h => by rw [h] at hr; exact absurd hr (by simp), fun j hj => ?_⟩
    by_cases hjn : n ≤ j
    · exact absurd hj (seg_waits hs hl hn inv _ i rfl hin hun j hjn)
    refine ⟨by omega, ?_⟩
    by_cases hji : j = i
    · rw [hji]; exact hy.qOp hi H
    obtain ⟨hjun, oj, hoj, hall⟩ := mem_ready.1 hj
    have hno : ∀ e, e ∈ oj.after → Region.binds md e = true → e.on ≠ i := by
      intro e he hb heq
      have := hall e he hb
      rw [heq, getD_both hun] at this
      exact absurd this (by simp)
    have step := qOp_put hoj (hfree j oj hoj hji hjun hno) (fun cs b => hsel i oi cs b hi) (fun cs b => hsel j oj cs b hoj) hy (H.2 j (ready_mono hj hji)).2
    refine qOp_mono (fun a' h3 => ?_) step
    refine ih _ a' (inv.set hj (by omega)) ?_ (ready_mono hr (Ne.symm hji)) h3.1 ?_
    · intro k ok hk hki hunk hnok
      refine hfree k ok hk hki ?_ hnok
      by_cases hjk : j = k
      · rw [← hjk]; exact hjun
      · rwa [getD_set_ne true hjk] at hunk
    · rw [Array.setIfInBounds_comm _ _ hji]; exact h3.2

def lexF (md : Region.Mode) (ops : Array Oper) (F : Array Bool → Bool) : Nat → Nat → Array Bool → Bool
  | 0, _, seen => F seen
  | f + 1, k, seen => (Region.ready md ops seen).contains k && Region.free md ops seen k && lexF md ops F f (k + 1) (seen.setIfInBounds k true)
theorem headK_lex {k0 n : Nat} {R : Act → Prop} {F : Array Bool → Bool} (hsel : Region.noSelect ops = true) (hs : sinkK md ops k0 n = true) (hlt : lateB md ops n = true) (hn : n < ops.size)
    (hF : ∀ seen, F seen = true → ∀ j, j ∈ Region.ready md ops seen → n ≤ j) (l : List Oper) :
    ∀ (k : Nat) (seen : Array Bool) (a : Act), (∀ j, j < l.length → l[j]? = ops[k + j]?) → k + l.length = n → SegInv md ops k0 n seen →
      lexF md ops F l.length k seen = true → wpQuiet P ops C R l a → HeadQ P md ops C n (fun seen' a' => SegInv md ops k0 n seen' ∧ F seen' = true ∧ R a') l.length seen a := by
  induction l with
  | nil =>
    intro k seen a _ hk inv hB h
    exact ⟨inv, hB, h⟩
  | cons o l ih =>
    intro k seen a hl hk inv hB h
    have h0 : ops[k]? = some o := by simpa using (hl 0 (by simp)).symm
    simp only [List.length_cons, lexF, Bool.and_eq_true] at hB
    obtain ⟨⟨hr, hf⟩, hB'⟩ := hB
    have hkn : k < n := by simp only [List.length_cons] at hk; omega
    have hr' : k ∈ Region.ready md ops seen := by simpa using hr
    have hq : qOp P ops C k (wpQuiet P ops C R l) a := by unfold qOp; simp only [h0]; exact h
    obtain ⟨v, hy, hK⟩ := yieldsIn_of_qOp h0 hq
    refine headK_take h0 (Region.noSelect_spec hsel) hs hlt hn hkn (fun seen' a' hL => hF seen' hL.2.1) l.length seen a inv (Region.free_spec h0 hf) hr' hy ?_
    refine ih (k + 1) _ _ (fun j hj => ?_) (by simp only [List.length_cons] at hk; omega) (inv.set hr' hkn) hB' hK
    have := hl (j + 1) (by simp; omega)
    simpa [Nat.add_assoc, Nat.add_comm 1 j] using this

abbrev ExtC (w : World) : World → Prop := fun W => ∃ s : ExtW w, W = s.val
def segB (md : Region.Mode) (ops : Array Oper) : List Nat → Nat → Array Bool → Bool
  | [], k, seen => Region.lexFrom md ops (ops.size - k) k seen
  | n :: ns, k, seen => decide (k ≤ n) && decide (n < ops.size) && sinkK md ops k n && lateB md ops n &&
      lexF md ops (fun s => decide (Region.ready md ops s = [n]) && (List.range n).all (fun i => s.getD i false) && segB md ops ns (n + 1) (s.setIfInBounds n true)) (n - k) k seen
def Segs (P : Program) (ops : Array Oper) (Q : Exit → Act → World → Prop) : List Nat → Nat → List Oper → Act → World → Prop
  | [], _, l, a, w => wpQuiet P ops (ExtC w) (fun a' => ∀ W, ExtC w W → Q .normal a' W) l a
  | n :: ns, k, l, a, w => wpQuiet P ops (ExtC w) (fun a' => ∀ W, ExtC w W → Go.wpOp P ops Q n (fun a2 w2 => Segs P ops Q ns (n + 1) (l.drop (n + 1 - k)) a2 w2) a' W) (l.take (n - k)) a

theorem any_of_segs {Q : Exit → Act → World → Prop} (hsel : Region.noSelect ops = true) : ∀ (ns : List Nat) (k : Nat) (l : List Oper) (seen : Array Bool) (a : Act) (w w1 : World), (∀ j, l[j]? = ops[k + j]?) → k + l.length = ops.size →
    (∀ n, k ≤ n → SegInv md ops k n seen) → segB md ops ns k seen = true → ExtC w w1 → Segs P ops Q ns k l a w → wpAny P md ops Q l.length seen a w1
  | [], k, l, seen, a, w, w1, hl, hk, inv, hB, hC, h => by
    simp only [segB, show ops.size - k = l.length by omega] at hB
    exact wpAny_of_quiet (Q := fun a' => ∀ W, ExtC w W → Q .normal a' W) (fun _ w' hw' h => h w' hw') _ _ _ _ hC (wpAnyQ_lex hsel l k seen a hl hB h)
  | n :: ns, k, l, seen, a, w, w1, hl, hk, inv, hB, hC, h => by
    simp only [segB, Bool.and_eq_true, decide_eq_true_eq] at hB
    obtain ⟨⟨⟨⟨hkn, hn⟩, hs⟩, hlt⟩, hB⟩ := hB
    have htl : (l.take (n - k)).length = n - k := by simp; omega
    have hh := headK_lex (P := P) (C := ExtC w) (R := fun a' => ∀ W, ExtC w W → Go.wpOp P ops Q n (fun a2 w2 => Segs P ops Q ns (n + 1) (l.drop (n + 1 - k)) a2 w2) a' W) hsel hs hlt hn (F := fun s => decide (Region.ready md ops s = [n]) && (List.range n).all (fun i => s.getD i false) && segB md ops ns (n + 1) (s.setIfInBounds n true))
      (fun s hF j hj => by
        simp only [Bool.and_eq_true, decide_eq_true_eq] at hF
        rw [hF.1.1] at hj
        have : j = n := by simpa using hj
        omega) (l.take (n - k)) k seen a (fun j hj => by rw [htl] at hj; rw [List.getElem?_take_of_lt hj]; exact hl j) (by rw [htl]; omega) (inv n hkn) (by rw [htl]; exact hB) h
    rw [htl] at hh
    have := any_of_headQ (Q := Q) (g := l.length - (n - k)) (fun seen' a' W hW hL => ?_) _ _ _ _ hC hh
    · rw [show n - k + (l.length - (n - k)) = l.length by omega] at this
      exact this
    · obtain ⟨inv', hF, hR⟩ := hL
      simp only [Bool.and_eq_true, decide_eq_true_eq] at hF
      obtain ⟨⟨hr, hall⟩, hsB⟩ := hF
      rw [show l.length - (n - k) = (l.length - (n - k) - 1) + 1 by omega]
      refine ⟨fun h0 => (by rw [hr] at h0; cases h0), fun i hi => ?_⟩
      have hin : i = n := by rw [hr] at hi; simpa using hi
      subst hin
      refine wpOp_mono (fun a2 w2 h2 => ?_) (hR W hW)
      have hlen : (l.drop (i + 1 - k)).length = l.length - (i - k) - 1 := by simp; omega
      have := any_of_segs hsel ns (i + 1) (l.drop (i + 1 - k)) (seen'.setIfInBounds i true) a2 w2 w2 (fun j => by rw [List.getElem?_drop, hl]; congr 1; omega) (by rw [hlen]; omega) (fun m hm => ?_) hsB ⟨⟨w2, Below.refl _ _⟩, rfl⟩ h2
      · rw [hlen] at this; exact this
      · have hsz : i < seen'.size := by rw [inv'.inv.size]; exact hn
        refine ⟨⟨by simp [inv'.inv.size], fun j oj hj hlj e he hb => ?_, fun t ht ht2 => by rw [getD_set_ne true (by omega)]; exact inv'.inv.tail t (by omega) ht2⟩, fun j hj => ?_⟩
        · by_cases hij : i = j
          · subst hij
            obtain ⟨_, oi, hoi, hall2⟩ := mem_ready.1 hi
            have : oj = oi := Option.some.inj (hj.symm.trans hoi)
            subst this
            have h3 := hall2 e he hb
            by_cases hie : i = e.on
            · rw [← hie]; simp [hsz]
            · rw [getD_set_ne false hie]; exact h3
          · rw [getD_set_ne false hij] at hlj
            have h3 := inv'.inv.closed j oj hj hlj e he hb
            by_cases hie : i = e.on
            · rw [← hie]; simp [hsz]
            · rw [getD_set_ne false hie]; exact h3
        · by_cases hij : i = j
          · subst hij; simp [hsz]
          · rw [getD_set_ne false hij]
            exact List.all_eq_true.1 hall j (List.mem_range.2 (by omega))

/-- The region, in segments; ns: the operations that may write. -/
theorem wp_region_segs {id : Nat} {Q : Exit → Act → World → Prop} {a : Act} {w : World} {l : List Oper} (ns : List Nat) (hm : P.follows .mixedOrders = true) (hsel : Region.noSelect l.toArray = true) (hB : segB .any l.toArray ns 0 (Array.replicate l.toArray.size false) = true)
    (h : Segs P l.toArray Q ns 0 l a w) : (Code.region id l.toArray true).wp P Q a w := by
  refine wp_region_any hm ?_
  have := any_of_segs (P := P) (md := .any) (Q := Q) hsel ns 0 l (Array.replicate l.toArray.size false) a w w.drew (fun j => by simp) (by simp) (fun n _ => ?_) hB ⟨⟨_, (Below.refl _ _).drew⟩, rfl⟩ h
  · simpa using this
  · exact ⟨⟨by simp, fun j oj _ hl => by rw [getD_replicate_false] at hl; exact absurd hl (by simp), fun t _ ht => getD_in (by simpa using ht) (getD_replicate_false _ _)⟩, fun i hi => by omega⟩
/-- The operation that may write is a call. -/
theorem seg_call {Q : Exit → Act → World → Prop} {n : Nat} {K : Act → World → Prop} {o : Oper} {a : Act} {w : World} (hi : ops[n]? = some o) (hw : Region.wanted o (yielded ops a.tmps) = true) (f : FuncId) (args : Array Value) (hrun : (execOp a.eval o).run P w = .ok (.enter f args) w)
    (h : Calls P f args w fun e w' => ∃ v, e = .returned v ∧ K (a.put o.dst v) w') : Go.wpOp P ops Q n K a w := by
  unfold Go.wpOp
  simp only [hi]
  rw [if_pos hw]
  left
  unfold Oper.wp
  rw [hrun]
  simp only [Oper.upon]
  refine h.mono fun e w' ⟨v, he, ht⟩ => ?_
  subst he
  exact ht
/-- .. it is passed by. -/
theorem seg_skip {Q : Exit → Act → World → Prop} {n : Nat} {K : Act → World → Prop} {o : Oper} {a : Act} {w : World} (hi : ops[n]? = some o) (hw : Region.wanted o (yielded ops a.tmps) = false) (h : K (a.put o.dst undef) w) : Go.wpOp P ops Q n K a w := by
  unfold Go.wpOp
  simp only [hi]
  rw [hw]
  simpa using h
end
end Go.Proofs.YtmakjfeepmiggaaGreat

/-
  What is done in both worlds, one behind the other.
-/
namespace Go.Proofs.YtmakjfeepmiggaaGreat
open Go.RowKit Go.Maps
set_option linter.unusedVariables false

theorem hcell {w : World} {q : Nat} {cs : Array Value} {T : TypeId} (h : w.heap[q]? = some (.cells cs T (0, 0))) (o : Nat) : w.cell? ⟨q, o, none⟩ = cs[o]? := by unfold World.cell?; simp only; rw [h]; rfl
theorem hfrz {w : World} {q : Nat} {cs : Array Value} {T : TypeId} (h : w.heap[q]? = some (.cells cs T (0, 0))) (o : Nat) : w.frozen? ⟨q, o, none⟩ = false := by simp [World.frozen?, h]
theorem WS.of {w0 w w' : World} {B : WB} {V : WV} {s s' : CS} {S : Nat → Prop} (h : WS w0 w B V s) (hS : Cells w w0.heap.size B.cb s S) (hA : Acc w w0.heap.size B.cb s' S w') : WS w0 w' B V s' ∧ Fr wTy true w w' := by
  have hk : Keeps S w w' := by obtain ⟨S', h1, h2, h3⟩ := hA; exact h2
  exact h.acc (Own.acc hS h.below hA) (hA.rest hS) hk.size (h.fmk.acc hS hA)
section
variable {w0 w : World} {B : WB} {V : WV} {s : CS} (h : WS w0 w B V s) (hr : s.room) (a : Int) (ha : (Lit.int .u64 a).wf = true)
include h hr ha
theorem WS.load : Calls Tryz.prog 62 #[.pointer (some ⟨B.cb, 0, none⟩), .int .u64 a] w fun e w' => e = .returned (.int .u64 (s.val a)) ∧ WS w0 w' B V (s.acc 1 a (s.val a)) ∧ Fr wTy true w w' := by
  obtain ⟨⟨S, hS⟩, hB⟩ := h.own
  exact (load_any w _ B.cb s S hS a ha hr.1 hr.2 hB.size).mono fun e w' ⟨he, hA⟩ => ⟨he, h.of hS hA⟩
theorem WS.store (v : Int) (hv : (Lit.int .u64 v).wf = true) : Calls Tryz.prog 41 #[.pointer (some ⟨B.cb, 0, none⟩), .int .u64 a, .int .u64 v] w fun e w' => e = .returned (.int .u64 (s.val a)) ∧ WS w0 w' B V (s.acc 2 a v) ∧ Fr wTy true w w' := by
  obtain ⟨⟨S, hS⟩, hB⟩ := h.own
  exact (store_any w _ B.cb s S hS a v ha hv hr.1 hr.2 hB.size).mono fun e w' ⟨he, hA⟩ => ⟨he, h.of hS hA⟩
theorem WS.add (v : Int) : Calls Tryz.prog 282 #[.pointer (some ⟨B.cb, 0, none⟩), .int .u64 a, .int .u64 v] w fun e w' => e = .returned (.int .u64 (s.val a)) ∧ WS w0 w' B V (s.acc 4 a (wu (s.val a + v))) ∧ Fr wTy true w w' := by
  obtain ⟨⟨S, hS⟩, hB⟩ := h.own
  exact (add_any w _ B.cb s S hS a v ha hr.1 hr.2 hB.size).mono fun e w' ⟨he, hA⟩ => ⟨he, h.of hS hA⟩
theorem WS.cas (x y : Int) (hy : (Lit.int .u64 y).wf = true) : Calls Tryz.prog 159 #[.pointer (some ⟨B.cb, 0, none⟩), .int .u64 a, .int .u64 x, .int .u64 y] w fun e w' => e = .returned (.tuple #[.int .u64 (s.val a), .bool (s.val a == x)]) ∧
    WS w0 w' B V (s.acc 3 a (if s.val a = x then y else s.val a)) ∧ Fr wTy true w w' := by
  obtain ⟨⟨S, hS⟩, hB⟩ := h.own
  exact (cas_any w _ B.cb s S hS a x y ha hy hr.1 hr.2 hB.size).mono fun e w' ⟨he, hA⟩ => ⟨he, h.of hS hA⟩
omit hr in
theorem WS.peek : Calls Tryz.prog 142 #[.pointer (some ⟨B.cb, 0, none⟩), .int .u64 a] w fun e w' => e = .returned (.int .u64 (s.val a)) ∧ w' = w := peek_own h.own a ha
end
theorem WS.c0 {w0 w : World} {B : WB} {V : WV} {s : CS} (h : WS w0 w B V s) : w.cell? ⟨B.wb, 0, none⟩ = some (.pointer (some ⟨B.cb, 0, none⟩)) := (h.cell 0).trans (val_at B V h.tkl).1
theorem far_rooms {s : CS} {x : RS} {m : Nat} (hf : Far s x m) (ha : Alike s x) (hm : m ≤ 90000) : s.room ∧ x.room := by
  obtain ⟨h1, h2, h3⟩ := hf
  refine ⟨CS.room_of m ⟨h1, h2⟩ (by unfold lim; omega), by omega, ?_⟩
  rw [← ha.cnt]; omega
def pairV (B R : WB) : Value := .agg #[.pointer (some ⟨B.wb, 0, none⟩), .pointer (some ⟨R.wb, 0, none⟩)]

set_option maxRecDepth 10000 in
set_option maxHeartbeats 1000000 in
theorem pstore_any {w0 w : World} {B R : WB} {V : WV} {s : CS} {x : RS} (h : Pr w0 w B R V s x) (m : Nat) (hf : Far s x m) (hm : m ≤ 90000) (a v : Int) (ha : (Lit.int .u64 a).wf = true) (hv : (Lit.int .u64 v).wf = true) :
    Calls Tryz.prog 13 #[.agg #[.pointer (some ⟨B.wb, 0, none⟩), .pointer (some ⟨R.wb, 0, none⟩)], .agg #[.int .u64 a, .int .u64 v]] w fun e w' => e = .returned (.tuple #[]) ∧ Pr w0 w' B R V (s.acc 2 a v) (x.acc 2 a v) ∧ Fr wrTy true w w' := by
  obtain ⟨w1, hw1⟩ : ∃ w1, w1 = (w.alloc (.cells #[.pointer (some ⟨B.wb, 0, none⟩), .pointer (some ⟨R.wb, 0, none⟩)] 34)).alloc (.cells #[.int .u64 a, .int .u64 v] 41) := ⟨_, rfl⟩
  have hB1 : Below w.heap.size w w1 := by rw [hw1]; exact ((Below.refl _ _).alloc (Nat.le_refl _) _).alloc (by simp) _
  have hq1 : w1.heap[w.heap.size]? = some (.cells #[.pointer (some ⟨B.wb, 0, none⟩), .pointer (some ⟨R.wb, 0, none⟩)] 34 (0, 0)) := by rw [hw1]; exact heap_alloc_old (heap_alloc_new w _)
  have hq2 : w1.heap[w.heap.size + 1]? = some (.cells #[.int .u64 a, .int .u64 v] 41 (0, 0)) := by rw [hw1]; exact heap_alloc_at _ _ (by simp)
  have h1 := h.keep hB1
  obtain ⟨hr1, hr2⟩ := far_rooms hf h.al hm
  have hst : ∀ W, Below w1.heap.size w1 W → Calls Tryz.prog 41 #[.pointer (some ⟨B.cb, 0, none⟩), .int .u64 a, .int .u64 v] W fun e w' => e = .returned (.int .u64 (s.val a)) ∧ WS w0 w' B V (s.acc 2 a v) ∧ Fr wTy true W w' := fun W hW => (h1.ws.keep hW).store hr1 a ha v hv
  have x0 := fun st : ExtW w1 => st.cell (hcell hq1 0)
  have x1 := fun st : ExtW w1 => st.cell (hcell hq2 0)
  have x2 := fun st : ExtW w1 => st.cell (hcell hq2 1)
  have x3 := fun st : ExtW w1 => st.cell h1.ws.c0
  have H := Lib.hid h1; have HS := Lib.hid hst; have HQ1 := Lib.hid hq1; have HQ2 := Lib.hid hq2; have HB1 := Lib.hid hB1; have HA := Lib.hid ha; have HV := Lib.hid hv; have HR := Lib.hid hr2; have HAL := Lib.hid h.al
  clear h h1 hf hst hq1 hq2 hB1 ha hv hr1 hr2
  go_enter Tryz.func13, Tryz.ntmps13
  go_wp2_with fail
  rw [← hw1]
  clear hw1
  refine wp_region_segs [9] (by kernel_rfl) (by kernel_rfl) (by kernel_rfl) ?_
  simp only [Segs, List.take_succ_cons, List.take_zero, List.drop_succ_cons, List.drop_zero]
  repeat (go_big_quiet_step (fail))
  refine wpQuiet_nil ?_
  rintro W ⟨⟨W2, hW⟩, rfl⟩
  clear x0 x1 x2 x3
  refine seg_call rfl (by kernel_rfl) 41 #[.pointer (some ⟨B.cb, 0, none⟩), .int .u64 a, .int .u64 v] (by kernel_rfl) ?_
  refine (HS.out _ hW).mono ?_
  rintro e w2 ⟨rfl, h2, f2⟩
  refine ⟨_, rfl, ?_⟩
  have hq1 := f2.cells _ _ _ _ ((hW.block _ (Array.getElem?_eq_some_iff.1 HQ1.out).1).trans HQ1.out) rfl
  have hq2 := f2.cells _ _ _ _ ((hW.block _ (Array.getElem?_eq_some_iff.1 HQ2.out).1).trans HQ2.out) rfl
  have hrd := (H.out.rd.keep hW).byw f2 h2.below
  have F2 : Hid (Fr wrTy true w w2) := ((below_fr HB1.out _ _).trans (below_fr hW _ _)).trans (wr_of_w f2)
  have H2 := Lib.hid h2; have HRD := Lib.hid hrd; have HQ3 := Lib.hid hq1; have HQ4 := Lib.hid hq2
  clear hW h2 f2 hrd hq1 hq2
  refine wpQuiet_nil ?_
  rintro W3 ⟨⟨W4, hW4⟩, rfl⟩
  have hq1 := (hW4.block _ (Array.getElem?_eq_some_iff.1 HQ3.out).1).trans HQ3.out
  have hq2 := (hW4.block _ (Array.getElem?_eq_some_iff.1 HQ4.out).1).trans HQ4.out
  have y0 := hcell hq1 1
  have y1 := hcell hq2 0
  have y2 := hcell hq2 1
  have hrs := rwstore (HRD.out.keep hW4) HR.out a HA.out v HV.out
  have H3 := Lib.hid (H2.out.keep hW4); have F3 : Hid (Fr wrTy true w W3) := F2.out.trans (below_fr hW4 _ _)
  clear hq1 hq2 hW4
  go_wp2_with (go_at_call 54; refine hrs.mono ?_; rintro e w5 ⟨rfl, h5, f5⟩)
  go_end0
  exact ⟨rfl, ⟨H3.out.byr f5 h5.below, h5, HAL.out.acc 2 a v⟩, F3.out.trans (wr_of_r f5)⟩

theorem WS.item {w0 w : World} {B : WB} {V : WV} {s : CS} (h : WS w0 w B V s) (y : Itm) (hl : V.its.length < 1048576) : Calls Tryz.prog 79 #[.pointer (some ⟨B.ib, 0, none⟩), .agg #[.string (y).key, .string (y).val, .int .u32 (y).flags, .int .u64 (y).id, .int .i64 (y).dies, .int .i64 (y).gen]] w fun e w' =>
    e = .returned (.tuple #[.int .i64 (V.its.length + 1 : Nat), .int .i64 0]) ∧ WS w0 w' B { V with its := V.its ++ [y] } s ∧ Fr wTy true w w' := by
  obtain ⟨S, hA⟩ := h.ar
  refine (add_lit y _ B.ib V.its S w hA h.below.size hl).mono fun e w' ⟨he, S', h1, h2, h3⟩ => ⟨he, ?_⟩
  have hB : Below w0.heap.size w0 w' := keeps_below h2 h.below h.below.size fun k hk => (hA.fp k hk).1
  have hf : Fr (fun T => T == 242 || T == 248 || T == 250) false w w' := keeps_fr h2 _ _ fun k hk => by
    obtain ⟨cs, T, e1, e2⟩ := hA.ty k hk
    exact ⟨cs, T, _, e1, by rcases e2 with rfl | rfl | rfl <;> rfl⟩
  refine ⟨⟨h.own.fr hf hB rfl rfl, hf.cells _ _ _ _ h.blk rfl, h.lo, ⟨S', h1⟩, h.nt.fr hf rfl rfl, h.tkl, h.fmk.fr h.own hf rfl⟩, hf.mono (fun T hT => ?_) (fun h => by cases h)⟩
  unfold wTy at hT; simp only [Bool.or_eq_false_iff] at hT
  simp only [Bool.or_eq_false_iff]
  exact ⟨⟨hT.1.1.1.1.2, hT.1.1.1.2⟩, hT.1.1.2⟩
theorem RD.item {w0 w : World} {B : WB} {V : WV} {x : RS} (h : RD w0 w B V x) (y : Itm) (hl : V.its.length < 1048576) : Calls Tryz.prog 100 #[.pointer (some ⟨B.ib, 0, none⟩), .agg #[.string (y).key, .string (y).val, .int .u32 (y).flags, .int .u64 (y).id, .int .i64 (y).dies, .int .i64 (y).gen]] w fun e w' =>
    e = .returned (.tuple #[.int .i64 (V.its.length + 1 : Nat), .int .i64 0]) ∧ RD w0 w' B { V with its := V.its ++ [y] } x ∧ Fr rTy false w w' := by
  obtain ⟨S, hA⟩ := h.ar
  obtain ⟨lv, hr⟩ := h.ref
  refine (iradd_any y _ B.ib _ V.its S w hA h.below.size rfl hl).mono fun e w' ⟨he, S', h1, h2, h3⟩ => ⟨he, ?_⟩
  have hB : Below w0.heap.size w0 w' := keeps_below h2 h.below h.below.size fun k hk => (hA.fp k hk).1
  have hf : Fr (fun T => T == 223 || T == 80) false w w' := keeps_fr h2 _ _ fun k hk => by
    obtain ⟨cs, T, e1, e2⟩ := hA.ty k hk
    exact ⟨cs, T, _, e1, by rcases e2 with rfl | rfl <;> rfl⟩
  refine ⟨⟨hB, ⟨lv, hf.cells _ _ _ _ hr.hdr rfl, hr.lo, own_fr hr.row hf rfl, hr.wf⟩, hf.cells _ _ _ _ h.blk rfl, h.lo, ⟨S', h1⟩, h.nt.fr hf rfl rfl, h.tkl⟩, hf.mono (fun T hT => ?_) id⟩
  unfold rTy at hT; simp only [Bool.or_eq_false_iff] at hT
  simp only [Bool.or_eq_false_iff]
  exact ⟨hT.1.1.1.2, hT.1.1.2⟩

set_option maxRecDepth 10000 in
set_option maxHeartbeats 1000000 in
theorem pitem_any {w0 w : World} {B R : WB} {V : WV} {s : CS} {x : RS} (h : Pr w0 w B R V s x) (y : Itm) (hl : V.its.length < 1048576) :
    Calls Tryz.prog 28 #[.agg #[.pointer (some ⟨B.wb, 0, none⟩), .pointer (some ⟨R.wb, 0, none⟩)], .agg #[.string (y).key, .string (y).val, .int .u32 (y).flags, .int .u64 (y).id, .int .i64 (y).dies, .int .i64 (y).gen]] w fun e w' => e = .returned (.tuple #[]) ∧ Pr w0 w' B R { V with its := V.its ++ [y] } s x ∧ Fr wrTy true w w' := by
  obtain ⟨w1, hw1⟩ : ∃ w1, w1 = (w.alloc (.cells #[.pointer (some ⟨B.wb, 0, none⟩), .pointer (some ⟨R.wb, 0, none⟩)] 34)).alloc (.cells y.cells.toArray 80) := ⟨_, rfl⟩
  have hB1 : Below w.heap.size w w1 := by rw [hw1]; exact ((Below.refl _ _).alloc (Nat.le_refl _) _).alloc (by simp) _
  have hq1 : w1.heap[w.heap.size]? = some (.cells #[.pointer (some ⟨B.wb, 0, none⟩), .pointer (some ⟨R.wb, 0, none⟩)] 34 (0, 0)) := by rw [hw1]; exact heap_alloc_old (heap_alloc_new w _)
  have hq2 : Box w1 (w.heap.size + 1) y := by unfold Box; rw [hw1]; exact heap_alloc_at _ _ (by simp)
  have h1 := h.keep hB1
  have hst : ∀ W, Below w1.heap.size w1 W → Calls Tryz.prog 79 #[.pointer (some ⟨B.ib, 0, none⟩), .agg #[.string (y).key, .string (y).val, .int .u32 (y).flags, .int .u64 (y).id, .int .i64 (y).dies, .int .i64 (y).gen]] W fun e w' => e = .returned (.tuple #[.int .i64 (V.its.length + 1 : Nat), .int .i64 0]) ∧ WS w0 w' B { V with its := V.its ++ [y] } s ∧ Fr wTy true W w' := fun W hW => (h1.ws.keep hW).item y hl
  obtain ⟨c0, c1, c2, c3, c4, c5⟩ := hq2.cells
  have x0 := fun st : ExtW w1 => st.cell (hcell hq1 0)
  have z0 := fun st : ExtW w1 => st.cell c0
  have z1 := fun st : ExtW w1 => st.cell c1
  have z2 := fun st : ExtW w1 => st.cell c2
  have z3 := fun st : ExtW w1 => st.cell c3
  have z4 := fun st : ExtW w1 => st.cell c4
  have z5 := fun st : ExtW w1 => st.cell c5
  have x3 := fun st : ExtW w1 => st.cell ((h1.ws.cell 1).trans (val_at B V h1.ws.tkl).2.1)
  have H := Lib.hid h1; have HS := Lib.hid hst; have HQ1 := Lib.hid hq1; have HQ2 := Lib.hid hq2; have HB1 := Lib.hid hB1; have HL := Lib.hid hl
  clear h h1 hst hq1 hq2 hB1 hl c0 c1 c2 c3 c4 c5
  go_enter Tryz.func28, Tryz.ntmps28
  go_wp2_with fail
  change Code.wp _ _ _ _ ((w.alloc (.cells #[.pointer (some ⟨B.wb, 0, none⟩), .pointer (some ⟨R.wb, 0, none⟩)] 34)).alloc (.cells y.cells.toArray 80))
  rw [← hw1]
  clear hw1
  refine wp_region_segs [6] (by kernel_rfl) (by kernel_rfl) (by kernel_rfl) ?_
  simp only [Segs, List.take_succ_cons, List.take_zero, List.drop_succ_cons, List.drop_zero]
  repeat (go_big_quiet_step (fail))
  refine wpQuiet_nil ?_
  rintro W ⟨⟨W2, hW⟩, rfl⟩
  clear x0 x3 z0 z1 z2 z3 z4 z5
  refine seg_call rfl (by kernel_rfl) 79 #[.pointer (some ⟨B.ib, 0, none⟩), .agg #[.string (y).key, .string (y).val, .int .u32 (y).flags, .int .u64 (y).id, .int .i64 (y).dies, .int .i64 (y).gen]] (by kernel_rfl) ?_
  refine (HS.out _ hW).mono ?_
  rintro e w2 ⟨rfl, h2, f2⟩
  refine ⟨_, rfl, ?_⟩
  simp only [List.getElem_toArray, List.getElem_cons_succ, List.getElem_cons_zero]
  go_frame
  have hq1 := f2.cells _ _ _ _ ((hW.block _ (Array.getElem?_eq_some_iff.1 HQ1.out).1).trans HQ1.out) rfl
  have hq2 : Box w2 (w.heap.size + 1) y := f2.cells _ _ _ _ (HQ2.out.below hW) rfl
  have hrd := (H.out.rd.keep hW).byw f2 h2.below
  have F2 : Hid (Fr wrTy true w w2) := ((below_fr HB1.out _ _).trans (below_fr hW _ _)).trans (wr_of_w f2)
  have H2 := Lib.hid h2; have HRD := Lib.hid hrd; have HQ3 := Lib.hid hq1; have HQ4 := Lib.hid hq2
  clear hW h2 f2 hrd hq1 hq2
  refine wpQuiet_nil ?_
  rintro W3 ⟨⟨W4, hW4⟩, rfl⟩
  have hq1 := (hW4.block _ (Array.getElem?_eq_some_iff.1 HQ3.out).1).trans HQ3.out
  have hq2 : Box W3 (w.heap.size + 1) y := HQ4.out.below hW4
  have hrd := HRD.out.keep hW4
  obtain ⟨c0, c1, c2, c3, c4, c5⟩ := hq2.cells
  have x0 := fun st : ExtW W3 => st.cell (hcell hq1 1)
  have z0 := fun st : ExtW W3 => st.cell c0
  have z1 := fun st : ExtW W3 => st.cell c1
  have z2 := fun st : ExtW W3 => st.cell c2
  have z3 := fun st : ExtW W3 => st.cell c3
  have z4 := fun st : ExtW W3 => st.cell c4
  have z5 := fun st : ExtW W3 => st.cell c5
  have x3 := fun st : ExtW W3 => st.cell ((hrd.cell 1).trans (val_at R V hrd.tkl).2.1)
  have H3 := Lib.hid (H2.out.keep hW4); have F3 : Hid (Fr wrTy true w W3) := F2.out.trans (below_fr hW4 _ _)
  have HR3 := Lib.hid hrd
  clear hq1 hq2 hW4 hrd c0 c1 c2 c3 c4 c5
  go_wp2_with fail
  refine wp_region_segs [6] (by kernel_rfl) (by kernel_rfl) (by kernel_rfl) ?_
  simp only [Segs, List.take_succ_cons, List.take_zero, List.drop_succ_cons, List.drop_zero]
  repeat (go_big_quiet_step (fail))
  refine wpQuiet_nil ?_
  rintro W5 ⟨⟨W6, hW6⟩, rfl⟩
  clear x0 x3 z0 z1 z2 z3 z4 z5
  refine seg_call rfl (by kernel_rfl) 100 #[.pointer (some ⟨R.ib, 0, none⟩), .agg #[.string (y).key, .string (y).val, .int .u32 (y).flags, .int .u64 (y).id, .int .i64 (y).dies, .int .i64 (y).gen]] (by kernel_rfl) ?_
  refine ((HR3.out.keep hW6).item y HL.out).mono ?_
  rintro e w7 ⟨rfl, h7, f7⟩
  refine ⟨_, rfl, ?_⟩
  have hws := (H3.out.keep hW6).byr f7 h7.below
  have F7 : Hid (Fr wrTy true w w7) := (F3.out.trans (below_fr hW6 _ _)).trans (wr_of_r f7)
  have H7 := Lib.hid h7; have HW7 := Lib.hid hws
  clear hW6 h7 f7 hws
  refine wpQuiet_nil ?_
  rintro W8 ⟨⟨W9, hW9⟩, rfl⟩
  have HF : Hid (Pr w0 W8 B R { V with its := V.its ++ [y] } s x ∧ Fr wrTy true w W8) := ⟨⟨HW7.out.keep hW9, H7.out.keep hW9, H.out.al⟩, F7.out.trans (below_fr hW9 _ _)⟩
  clear hW9
  go_wp2
  go_end0
  exact ⟨rfl, HF.out⟩

set_option maxRecDepth 10000 in
set_option maxHeartbeats 1000000 in
theorem WS.tick {w0 w : World} {B : WB} {V : WV} {s : CS} (h : WS w0 w B V s) (hr : s.room) : Calls Tryz.prog 101 #[.pointer (some ⟨B.wb, 0, none⟩)] w fun e w' => e = .returned (.tuple #[]) ∧ WS w0 w' B V (s.acc 3 8 (eTick (s.val 8))) ∧ Fr wTy true w w' := by
  have c0 := h.c0
  have x0 := fun st : ExtW w => st.cell c0
  have hk := peek_own h.own 8 (by decide)
  have hv := h.own.wf 8
  obtain ⟨x, hx⟩ : ∃ x, x = s.val 8 := ⟨_, rfl⟩
  have ht : ∀ st : ExtW w, Calls Tryz.prog 160 #[.int .u64 x] st.val fun e w' => e = .returned (.int .u64 (eTick x)) ∧ Below st.val.heap.size st.val w' := fun st => etick_any x (by rw [hx]; exact hv) st.val
  have HH := Lib.hid h
  have HR := Lib.hid hr
  rw [← hx] at hk ⊢
  have HX := Lib.hid hx
  clear h hr hv hx
  go_enter Tryz.func101, Tryz.ntmps101
  go_wp2_with (go_at_call 142; refine hk.mono ?_; rintro e w' ⟨rfl, rfl⟩)
  refine wp_region_ext_tail 7 (by kernel_rfl) (by kernel_rfl) ?_
  simp only [List.take_succ_cons, List.take_zero, List.drop_succ_cons, List.drop_zero]
  repeat (go_big_quiet_step ((go_at_call 160; with_reducible refine calls_ext (ht _))))
  refine wpQuiet_nil ?_
  rintro W ⟨⟨W2, hW⟩, rfl⟩
  clear x0 ht
  have hf := HH.out.keep hW
  have hs := HX.out
  have hcas := hf.cas HR.out 8 (by decide) x (eTick x) (etick_wf x)
  rw [← hs, if_pos rfl] at hcas
  have HW := Lib.hid (below_fr hW wTy true)
  clear hs hf hW
  go_wp2_with (go_at_call 159; refine hcas.mono ?_; rintro e w1 ⟨rfl, h1, h2⟩)
  go_end0
  exact ⟨rfl, h1, HW.out.trans h2⟩
theorem ptick_any {w0 w : World} {B R : WB} {V : WV} {s : CS} {x : RS} (h : Pr w0 w B R V s x) (m : Nat) (hf : Far s x m) (hm : m ≤ 90000) :
    Calls Tryz.prog 29 #[.agg #[.pointer (some ⟨B.wb, 0, none⟩), .pointer (some ⟨R.wb, 0, none⟩)]] w fun e w' => e = .returned (.tuple #[]) ∧ Pr w0 w' B R V (s.acc 3 8 (eTick (s.val 8))) (x.acc 3 8 (eTick (s.val 8))) ∧ Fr wrTy true w w' := by
  obtain ⟨w1, hw1⟩ : ∃ w1, w1 = w.alloc (.cells #[.pointer (some ⟨B.wb, 0, none⟩), .pointer (some ⟨R.wb, 0, none⟩)] 34) := ⟨_, rfl⟩
  have hB1 : Below w.heap.size w w1 := by rw [hw1]; exact (Below.refl _ _).alloc (Nat.le_refl _) _
  have hq1 : w1.heap[w.heap.size]? = some (.cells #[.pointer (some ⟨B.wb, 0, none⟩), .pointer (some ⟨R.wb, 0, none⟩)] 34 (0, 0)) := by rw [hw1]; exact heap_alloc_new w _
  have h1 := h.keep hB1
  obtain ⟨hr1, hr2⟩ := far_rooms hf h.al hm
  have x0 := hcell hq1 0
  have hv8 := congrFun h.al.val 8
  have ht := h1.ws.tick hr1
  have H := Lib.hid h1; have HQ1 := Lib.hid hq1; have HB1 := Lib.hid hB1; have HR := Lib.hid hr2; have HV := Lib.hid hv8
  clear h h1 hf hq1 hB1 hr1 hr2 hv8
  go_enter Tryz.func29, Tryz.ntmps29
  go_wp2_with fail
  rw [← hw1]
  clear hw1
  go_wp2_with (go_at_call 101; refine ht.mono ?_; rintro e w2 ⟨rfl, h2, f2⟩; have hq2 := f2.cells _ _ _ _ HQ1.out rfl; have y0 := hcell hq2 1; clear x0 hq2; have HRD := Lib.hid (H.out.rd.byw f2 h2.below); have H2 := Lib.hid h2; have F2 := Lib.hid (wr_of_w f2); clear h2 f2)
  have hrt := rwtick HRD.out HR.out
  rw [← HV.out] at hrt
  go_wp2_with (go_at_call 102; refine hrt.mono ?_; rintro e w3 ⟨rfl, h3, f3⟩)
  go_end0
  exact ⟨rfl, ⟨H2.out.byr f3 h3.below, h3, H.out.al.acc _ _ _⟩, ((below_fr HB1.out _ _).trans F2.out).trans (wr_of_r f3)⟩
end Go.Proofs.YtmakjfeepmiggaaGreat

/-
  notes.List.All: all notes, in new memory.
-/
namespace Go.Proofs.YtmakjfeepmiggaaGreat
open Go.RowKit
set_option linter.unusedVariables false

theorem lnotes_any {w : World} {base nb TN : Nat} {l : List Nte} (h : NL w base nb 286 TN .u8 l) : ∃ a cap, w.cell? ⟨nb, 0, none⟩ = some (.slice a l.length cap) ∧ w.ownsRow base TN 8 (.slice a l.length cap) l.length (l.flatMap (nteC .u8)) ∧ Calls Tryz.prog 140 #[.pointer (some ⟨nb, 0, none⟩)] w fun e w' => e = .returned (.slice a l.length cap) ∧ w' = w := by
  obtain ⟨v, h1, h2, h3⟩ := h
  obtain ⟨a, cap, rfl⟩ := own_sl2 h3
  have c0 : w.cell? ⟨nb, 0, none⟩ = some (.slice a l.length cap) := hcell h1 0
  refine ⟨a, cap, c0, h3, ?_⟩
  clear h1 h2 h3
  go_enter Tryz.func140, Tryz.ntmps140
  go_wp2
  go_ret
  exact ⟨rfl, rfl⟩
theorem since_ask {w : World} {cb : Nat} {i : Nat} (n : Nte) (hc : w.cell? ⟨cb, 0, none⟩ = some (.int .i64 0)) : Calls Tryz.prog 188 #[.int .i64 i, .agg (nteC .u8 n).toArray, .pointer (some ⟨cb, 0, none⟩)] w fun e w' => e = .returned (.bool true) ∧ Below w.heap.size w w' := by
  have hb := below_alloc w (.cells (nteC .u8 n).toArray 171)
  have hlt := World.block_lt_of_cell? _ _ hc
  have c0 : (w.alloc (.cells (nteC .u8 n).toArray 171)).cell? ⟨cb, 0, none⟩ = some (.int .i64 0) := by rw [World.cell?_alloc_past _ _ _ hlt]; exact hc
  have d0 : decide ((0 : Int) ≤ (i : Int)) = true := decide_eq_true (by omega)
  have HB := Lib.hid hb
  clear hb hc hlt
  go_enter Tryz.func188, Tryz.ntmps188
  go_upto_region 1 with (fail)
  change Code.wp _ _ _ _ (w.alloc (.cells (nteC .u8 n).toArray 171))
  generalize w.alloc (.cells (nteC .u8 n).toArray 171) = w1 at *
  go_wp2
  go_ret
  exact ⟨rfl, HB.out⟩
theorem info_note : (Tryz.prog.info? 171).map (fun i => (i.zero, i.size, i.bytes)) = some (some (.agg #[.int .i64 0, .int .i64 0, .int .u8 0, .int .i64 0, .int .i64 0, .int .i64 0, .int .i64 0, .int .i64 0]), 8, 64) := by kernel_rfl
/-- A row of notes that the call made, without room behind it. -/
def NRow (w : World) (base : Nat) (v : Value) (l : List Nte) : Prop :=
  (v = .slice none 0 0 ∧ l = []) ∨ ∃ g cur, v = .slice (some ⟨g, 0, none⟩) l.length l.length ∧ base ≤ g ∧ w.heap[g]? = some (.cells cur 171 (0, 0)) ∧ l.length ≤ maxLen ∧ cur.toList.take (l.length * 8) = l.flatMap (nteC .u8)
theorem nclip_any {w : World} {base : Nat} {v : Value} {l : List Nte} (h : w.ownsRow base 171 8 v l.length (l.flatMap (nteC .u8))) : Calls Tryz.prog 222 #[v] w fun e w' => ∃ v', e = .returned v' ∧ NRow w base v' l ∧ w' = w := by
  obtain ⟨h1, ⟨rfl, h0⟩ | ⟨g, cap, cur, rfl, hb, hg, hn, hm, hs, ht⟩⟩ := h
  · have : l = [] := List.length_eq_zero_iff.1 h0
    subst this
    clear h1 h0
    go_enter Tryz.func222, Tryz.ntmps222
    go_wp2
    go_ret
    exact ⟨_, rfl, .inl ⟨rfl, rfl⟩, rfl⟩
  · have hm2 := Nat.le_trans hn hm
    have H : Hid (NRow w base (.slice (some ⟨g, 0, none⟩) l.length l.length) l) := .inr ⟨g, cur, rfl, hb, hg, hm2, ht⟩
    unfold maxLen at hm hm2
    clear h1 hb hg hs ht
    go_enter Tryz.func222, Tryz.ntmps222
    go_wp2
    go_ret
    exact ⟨_, rfl, H.out, rfl⟩
theorem nte_at (l : List Nte) (k : Nat) (hk : k < l.length) (j : Nat) (hj : j < 8) : (l.flatMap (nteC .u8))[k * 8 + j]? = (nteC .u8 l[k])[j]? := by
  induction l generalizing k with
  | nil => simp at hk
  | cons x r ih =>
    rw [List.flatMap_cons]
    match k with
    | 0 =>
      rw [List.getElem?_append_left (by simp [nteC]; omega)]
      simp
    | k + 1 =>
      rw [List.getElem?_append_right (by simp [nteC]; omega)]
      have := ih k (by simp at hk; omega)
      simp only [List.getElem_cons_succ]
      rw [← this]
      congr 1
      simp [nteC]; omega
theorem row8_at {w : World} {base : Nat} {a : Option Addr} {cap : Nat} {l : List Nte} (h : w.ownsRow base 171 8 (.slice a l.length cap) l.length (l.flatMap (nteC .u8))) (k : Nat) (hk : k < l.length) :
    ∃ g, a = some ⟨g, 0, none⟩ ∧ ∀ j, j < 8 → w.cell? ⟨g, k * 8 + j, none⟩ = (nteC .u8 l[k])[j]? := by
  obtain ⟨h1, ⟨h2, h0⟩ | ⟨g, cap', cur, hv, hb, hg, hn, hm, hs, ht⟩⟩ := h
  · omega
  · simp only [Value.slice.injEq] at hv
    refine ⟨g, hv.1, fun j hj => ?_⟩
    rw [hcell hg, ← nte_at l k hk j hj, ← ht, List.getElem?_take, if_pos (by omega)]
    simp
set_option maxRecDepth 10000 in
set_option maxHeartbeats 2000000 in
theorem picked_any {w : World} {base nb cb : Nat} {l : List Nte} (h : NL w base nb 286 171 .u8 l) (hl : l.length ≤ 1048576) (hc : w.cell? ⟨cb, 0, none⟩ = some (.int .i64 0)) :
    Calls Tryz.prog 187 #[.pointer (some ⟨nb, 0, none⟩), .func (.func 188) #[] #[.pointer (some ⟨cb, 0, none⟩)]] w fun e w' => ∃ v, e = .returned v ∧ NRow w' w.heap.size v l ∧ Below w.heap.size w w' := by
  obtain ⟨a, cap, c0, hrow, hn⟩ := lnotes_any h
  obtain ⟨i0, hi0, hz0, hz1, hz2⟩ := info_parts info_note
  have HI := Lib.hid hi0; have HZ0 := Lib.hid hz0; have HZ1 := Lib.hid hz1; have HZ2 := Lib.hid hz2
  have HROW := Lib.hid hrow; have HC := Lib.hid hc; have HL := Lib.hid hl
  clear h hrow hc hl c0 hi0 hz0 hz1 hz2
  go_enter Tryz.func187, Tryz.ntmps187
  go_wp2_with (go_at_call 140; refine hn.mono ?_; rintro e w' ⟨rfl, hw⟩; obtain rfl := hw.symm; clear hn)
  go_loopw [5, 11] (fun v i wr => ∃ k : Nat, k ≤ l.length ∧ i = .int .i64 k ∧ wr.ownsRow w.heap.size 171 8 v k ((l.take k).flatMap (nteC .u8)) ∧ Below w.heap.size w wr) (fun _ i _ => l.length - (intOf i).toNat)
  case atStart => exact ⟨0, by omega, rfl, World.ownsRow_nil _ _ _ _, Below.refl _ _⟩
  case round =>
    obtain ⟨k, hk, rfl, hown, hbl⟩ := hrel
    have hl := HL.out
    by_cases hlt : k < l.length
    · have hlt' : (k : Int) < l.length := by omega
      obtain ⟨g, rfl, hcs⟩ := row8_at HROW.out k hlt
      obtain ⟨y, hy⟩ : ∃ y, y = l[k] := ⟨_, rfl⟩
      rw [← hy] at hcs
      have hgl : g < w.heap.size := World.block_lt_of_cell? _ _ ((hcs 0 (by omega)).trans rfl)
      have x : ∀ j, j < 8 → wr.cell? ⟨g, k * 8 + j, none⟩ = (nteC .u8 y)[j]? := fun j hj => (hbl.cell (p := ⟨g, k * 8 + j, none⟩) hgl).trans (hcs j hj)
      have x0 : wr.cell? ⟨g, k * 8, none⟩ = some (.int .i64 y.step) := x 0 (by omega)
      have x1 : wr.cell? ⟨g, k * 8 + 1, none⟩ = some (.int .i64 y.thread) := x 1 (by omega)
      have x2 : wr.cell? ⟨g, k * 8 + 2, none⟩ = some (.int .u8 y.kind) := x 2 (by omega)
      have x3 : wr.cell? ⟨g, k * 8 + 3, none⟩ = some (.int .i64 y.ref) := x 3 (by omega)
      have x4 : wr.cell? ⟨g, k * 8 + 4, none⟩ = some (.int .i64 y.bits) := x 4 (by omega)
      have x5 : wr.cell? ⟨g, k * 8 + 5, none⟩ = some (.int .i64 y.bucket) := x 5 (by omega)
      have x6 : wr.cell? ⟨g, k * 8 + 6, none⟩ = some (.int .i64 y.slot) := x 6 (by omega)
      have x7 : wr.cell? ⟨g, k * 8 + 7, none⟩ = some (.int .i64 y.value) := x 7 (by omega)
      have HOWN := Lib.hid hown; have HBL := Lib.hid hbl; have HY := Lib.hid hy
      clear hown hbl hcs x hy
      go_upto_region 5 with (fail)
      clear x0 x1 x2 x3 x4 x5 x6 x7
      have hb1 := below_alloc wr (.cells #[.int .i64 y.step, .int .i64 y.thread, .int .u8 y.kind, .int .i64 y.ref, .int .i64 y.bits, .int .i64 y.bucket, .int .i64 y.slot, .int .i64 y.value] 171)
      have hz1 := heap_alloc_new wr (.cells #[.int .i64 y.step, .int .i64 y.thread, .int .u8 y.kind, .int .i64 y.ref, .int .i64 y.bits, .int .i64 y.bucket, .int .i64 y.slot, .int .i64 y.value] 171)
      change Code.wp _ _ _ _ (wr.alloc (.cells #[.int .i64 y.step, .int .i64 y.thread, .int .u8 y.kind, .int .i64 y.ref, .int .i64 y.bits, .int .i64 y.bucket, .int .i64 y.slot, .int .i64 y.value] 171))
      generalize wr.alloc (.cells #[.int .i64 y.step, .int .i64 y.thread, .int .u8 y.kind, .int .i64 y.ref, .int .i64 y.bits, .int .i64 y.bucket, .int .i64 y.slot, .int .i64 y.value] 171) = w7 at *
      have hle := HBL.out.size
      have HR0 := Lib.hid (own_fr HOWN.out (below_fr hb1 (fun _ => false) false) rfl)
      generalize wr.heap.size = nq at *
      have x0 := hcell hz1 0; have x1 := hcell hz1 1; have x2 := hcell hz1 2; have x3 := hcell hz1 3
      have x4 := hcell hz1 4; have x5 := hcell hz1 5; have x6 := hcell hz1 6; have x7 := hcell hz1 7
      have hc7 : w7.cell? ⟨cb, 0, none⟩ = some (.int .i64 0) := by
        have hB : Below w.heap.size w w7 := HBL.out.trans (hb1.mono hle)
        exact (hB.cell (p := ⟨cb, 0, none⟩) (World.block_lt_of_cell? _ _ HC.out)).trans HC.out
      have hask := since_ask (i := k) y hc7
      have HB1 : Hid (Below w.heap.size w w7) := HBL.out.trans (hb1.mono hle)
      have HZ := Lib.hid hz1
      clear hb1 hz1 hc7
      go_upto_region 6 with (go_at_call 188; refine hask.mono ?_; intro e w8 hh; obtain ⟨hh1, b8⟩ := hh; subst hh1; have HB8 : Hid (Below w.heap.size w w8) := HB1.out.trans (b8.mono HB1.out.size); have hr8 := own_fr HR0.out (below_fr b8 (fun _ => false) false) rfl; have hz8 := (b8.block _ (Array.getElem?_eq_some_iff.1 HZ.out).1).trans HZ.out; clear b8 hask)
      clear x0 x1 x2 x3 x4 x5 x6 x7
      have x0 := hcell hz8 0; have x1 := hcell hz8 1; have x2 := hcell hz8 2; have x3 := hcell hz8 3
      have x4 := hcell hz8 4; have x5 := hcell hz8 5; have x6 := hcell hz8 6; have x7 := hcell hz8 7
      have HR8 := Lib.hid hr8
      clear hz8 hr8
      go_wp2_with (at_builtin; refine wpList_append_own _ rfl _ _ 165 rfl w.heap.size 171 i0 (.agg #[.int .i64 0, .int .i64 0, .int .u8 0, .int .i64 0, .int .i64 0, .int .i64 0, .int .i64 0, .int .i64 0]) 8 64 Tryz.underlying165 HI.out HZ0.out HZ1.out HZ2.out rfl (by decide) _ _ _ rfl (HR8.out.alloc _) ⟨w8.heap.size, 0, none⟩ 1 1 (nteC .u8 y) rfl rfl ?c1 ?c2 ?c3 ?c4 ?c5 ?_)
      case c1 => exact World.news_of_block (heap_alloc_new w8 _)
      case c2 => simp [Value.oneCell', nteC]
      case c3 => unfold maxLen; omega
      case c4 => omega
      case c5 => have := HB8.out.size; simp; omega
      intro v' w11 hown' hgrow _
      have hb10 := below_alloc w8 (.cells #[.int .i64 y.step, .int .i64 y.thread, .int .u8 y.kind, .int .i64 y.ref, .int .i64 y.bits, .int .i64 y.bucket, .int .i64 y.slot, .int .i64 y.value] 171)
      have hB11 : Below w.heap.size w w11 := grown_below (HR8.out.alloc _) hgrow (HB8.out.trans (hb10.mono HB8.out.size)) (Nat.le_trans HB8.out.size hb10.size) (Nat.le_refl _)
      have e1 : (l.take (k + 1)).flatMap (nteC .u8) = (l.take k).flatMap (nteC .u8) ++ nteC .u8 y := by
        rw [List.take_add_one, List.getElem?_eq_getElem hlt, List.flatMap_append, ← show y = l[k] from HY.out]; simp
      rw [← e1] at hown'
      have HOW := Lib.hid hown'; have HBW := Lib.hid hB11
      clear hown' hB11 hgrow hb10 e1 x0 x1 x2 x3 x4 x5 x6 x7
      go_wp2_with fail
      go_roundw
      case rel => exact ⟨k + 1, by omega, by go_num, HOW.out, HBW.out⟩
      case measure => simp [intOf]; omega
    · obtain rfl : k = l.length := by omega
      rw [List.take_length] at hown
      have hcl := nclip_any hown
      have HBL := Lib.hid hbl
      clear hown hbl
      go_wp2_with (go_at_call 222; refine hcl.mono ?_; intro e w9 hh; obtain ⟨v', hh1, hr, hw⟩ := hh; subst hh1; obtain rfl := hw.symm; have HR := Lib.hid hr; clear hr hcl)
      go_ret
      exact ⟨_, rfl, HR.out, HBL.out⟩
theorem lsince_any {w : World} {base nb : Nat} {l : List Nte} (h : NL w base nb 286 171 .u8 l) (hl : l.length ≤ 1048576) :
    Calls Tryz.prog 143 #[.pointer (some ⟨nb, 0, none⟩), .int .i64 0] w fun e w' => ∃ v, e = .returned v ∧ NRow w' w.heap.size v l ∧ Below w.heap.size w w' := by
  have hb := below_alloc w (.cells #[.int .i64 0] 3)
  have hz := heap_alloc_new w (.cells #[.int .i64 0] 3)
  have hp := picked_any (cb := w.heap.size) (h.fr (below_fr hb (fun _ => false) false) rfl rfl) hl (hcell hz 0)
  have HB := Lib.hid hb
  clear h hz hb
  go_enter Tryz.func143, Tryz.ntmps143
  go_wp2_with (go_at_call 187; refine hp.mono ?_; intro e w2 hh; obtain ⟨v, hh1, hr, b2⟩ := hh; subst hh1; have HR := Lib.hid hr; have B2 := Lib.hid b2; clear hr b2 hp)
  go_ret
  refine ⟨_, rfl, ?_, HB.out.trans (B2.out.mono HB.out.size)⟩
  rcases HR.out with h | ⟨g, cur, h1, h2, h3⟩
  · exact .inl h
  · exact .inr ⟨g, cur, h1, Nat.le_trans HB.out.size h2, h3⟩
theorem lall_any {w : World} {base nb : Nat} {l : List Nte} (h : NL w base nb 286 171 .u8 l) (hl : l.length ≤ 1048576) :
    Calls Tryz.prog 74 #[.pointer (some ⟨nb, 0, none⟩)] w fun e w' => ∃ v, e = .returned v ∧ NRow w' w.heap.size v l ∧ Below w.heap.size w w' := by
  have hp := lsince_any h hl
  clear h
  go_enter Tryz.func74, Tryz.ntmps74
  go_wp2_with (go_at_call 143; refine hp.mono ?_; intro e w2 hh; obtain ⟨v, hh1, hr, b2⟩ := hh; subst hh1; have HR := Lib.hid hr; have B2 := Lib.hid b2; clear hr b2 hp)
  go_ret
  exact ⟨_, rfl, HR.out, B2.out⟩
theorem NRow.at {w : World} {base : Nat} {v : Value} {l : List Nte} (h : NRow w base v l) (k : Nat) (hk : k < l.length) : ∃ g, v = .slice (some ⟨g, 0, none⟩) l.length l.length ∧ ∀ j, j < 8 → w.cell? ⟨g, k * 8 + j, none⟩ = (nteC .u8 l[k])[j]? := by
  rcases h with ⟨-, h0⟩ | ⟨g, cur, hv, hb, hg, hm, ht⟩
  · subst h0; simp at hk
  · refine ⟨g, hv, fun j hj => ?_⟩
    rw [hcell hg, ← nte_at l k hk j hj, ← ht, List.getElem?_take, if_pos (by omega)]
    simp
end Go.Proofs.YtmakjfeepmiggaaGreat

/-
  notes.List.Add, and a world's note.
-/
namespace Go.Proofs.YtmakjfeepmiggaaGreat
open Go.RowKit
set_option linter.unusedVariables false

theorem lcount_any {w : World} {base nb TN : Nat} {l : List Nte} (h : NL w base nb 286 TN .u8 l) : Calls Tryz.prog 70 #[.pointer (some ⟨nb, 0, none⟩)] w fun e w' => e = .returned (.int .i64 l.length) ∧ w' = w := by
  obtain ⟨a, cap, -, -, hn⟩ := lnotes_any h
  clear h
  go_enter Tryz.func70, Tryz.ntmps70
  go_wp2_with (go_at_call 140; refine hn.mono ?_; rintro e w' ⟨rfl, rfl⟩)
  go_ret
  exact ⟨rfl, rfl⟩
/-- Behind an Add: a note of a kind that is one. -/
def nadd (l : List Nte) (n : Nte) : List Nte := if 1 ≤ n.kind ∧ n.kind ≤ 9 then l ++ [n] else l
def nTy (T : TypeId) : Bool := T == 286 || T == 171
theorem nTy_l (T : TypeId) (h : nTy T = false) : (T == 286) = false := by unfold nTy at h; simp only [Bool.or_eq_false_iff] at h; exact h.1
theorem nTy_n (T : TypeId) (h : nTy T = false) : (T == 171) = false := by unfold nTy at h; simp only [Bool.or_eq_false_iff] at h; exact h.2
set_option maxRecDepth 10000 in
set_option maxHeartbeats 2000000 in
theorem ladd_no {w : World} {base nb : Nat} {l : List Nte} {n : Nte} (h : NL w base nb 286 171 .u8 l) (hk : n.kind = 0 ∨ 9 < n.kind) :
    Calls Tryz.prog 227 #[.pointer (some ⟨nb, 0, none⟩), .agg (nteC .u8 n).toArray] w fun e w' => (∃ k, e = .returned (.int .i64 k)) ∧ Below w.heap.size w w' := by
  have hb := below_alloc w (.cells (nteC .u8 n).toArray 171)
  have hz := heap_alloc_new w (.cells (nteC .u8 n).toArray 171)
  have h1 := h.fr (below_fr hb (fun _ => false) false) rfl rfl
  have hcn := lcount_any h1
  have HB := Lib.hid hb; have HZ := Lib.hid hz; have HK := Lib.hid hk
  clear h hb hz h1 hk
  go_enter Tryz.func227, Tryz.ntmps227
  go_upto_region 1 with (fail)
  change Code.wp _ _ _ _ (w.alloc (.cells (nteC .u8 n).toArray 171))
  generalize w.alloc (.cells (nteC .u8 n).toArray 171) = w1 at *
  go_upto_region 4 with (go_at_call 70; refine hcn.mono ?_; rintro e w2 ⟨rfl, hw⟩; obtain rfl := hw.symm; clear hcn)
  have x2 : ∀ st : ExtW w1, st.val.cell? ⟨w.heap.size, 2, none⟩ = some (.int .u8 n.kind) := fun st => st.cell (hcell HZ.out 2)
  rcases HK.out with hk | hk
  · have d1 : (n.kind == 0) = true := beq_iff_eq.2 hk
    refine wp_region_ext (by kernel_rfl) (by kernel_rfl) ?_
    repeat (go_big_quiet_step (fail))
    refine wpQuiet_nil ?_
    rintro W ⟨⟨W2, hW⟩, rfl⟩
    have HW := Lib.hid hW
    clear x2 hW
    go_wp2
    go_ret
    exact ⟨⟨_, rfl⟩, HB.out.trans (HW.out.mono HB.out.size)⟩
  · have d1 : (n.kind == 0) = false := beq_eq_false_iff_ne.2 (by omega)
    have d2 : decide (9 < n.kind) = true := decide_eq_true hk
    refine wp_region_ext (by kernel_rfl) (by kernel_rfl) ?_
    repeat (go_big_quiet_step (fail))
    refine wpQuiet_nil ?_
    rintro W ⟨⟨W2, hW⟩, rfl⟩
    have HW := Lib.hid hW
    clear x2 hW
    go_wp2
    go_ret
    exact ⟨⟨_, rfl⟩, HB.out.trans (HW.out.mono HB.out.size)⟩
set_option maxRecDepth 10000 in
set_option maxHeartbeats 4000000 in
theorem ladd_ok {w0 w : World} {base nb : Nat} {l : List Nte} {n : Nte} (h : NL w base nb 286 171 .u8 l) (hB : Below base w0 w) (hsz : base ≤ w.heap.size) (hl : l.length < 1048576) (hk : 1 ≤ n.kind ∧ n.kind ≤ 9) (hs : ∀ y, l.getLast? = some y → y.step ≤ n.step) :
    Calls Tryz.prog 227 #[.pointer (some ⟨nb, 0, none⟩), .agg (nteC .u8 n).toArray] w fun e w' => (∃ k, e = .returned (.int .i64 k)) ∧ NL w' base nb 286 171 .u8 (l ++ [n]) ∧ Fr nTy false w w' ∧ Below base w0 w' := by
  obtain ⟨i0, hi0, hz0, hz1, hz2⟩ := info_parts info_note
  have HI := Lib.hid hi0; have HZ0 := Lib.hid hz0; have HZ1 := Lib.hid hz1; have HZ2 := Lib.hid hz2
  have hb := below_alloc w (.cells (nteC .u8 n).toArray 171)
  have hz := heap_alloc_new w (.cells (nteC .u8 n).toArray 171)
  have h1 := h.fr (below_fr hb (fun _ => false) false) rfl rfl
  have hcn := lcount_any h1
  have HBB : Hid (Below base w0 (w.alloc (.cells (nteC .u8 n).toArray 171))) := hB.trans (hb.mono hsz)
  have HSZ : Hid (base ≤ (w.alloc (.cells (nteC .u8 n).toArray 171)).heap.size) := Nat.le_trans hsz hb.size
  have HB := Lib.hid hb; have H1 := Lib.hid h1; have HZ := Lib.hid hz; have HL := Lib.hid hl; have HK := Lib.hid hk; have HS := Lib.hid hs
  clear h hb hz h1 hl hk hs hi0 hz0 hz1 hz2 hB hsz
  go_enter Tryz.func227, Tryz.ntmps227
  go_upto_region 1 with (fail)
  change Code.wp _ _ _ _ (w.alloc (.cells (nteC .u8 n).toArray 171))
  generalize w.alloc (.cells (nteC .u8 n).toArray 171) = w1 at *
  go_upto_region 4 with (go_at_call 70; refine hcn.mono ?_; rintro e w2 ⟨rfl, hw⟩; obtain rfl := hw.symm; clear hcn)
  have HFC0 : Hid (Fr nTy false w w1) := below_fr HB.out _ _
  clear HB
  generalize w.heap.size = nq at *
  go_cut [11] (fun v wx => v = .bool false ∧ Below w1.heap.size w1 wx)
  case first =>
    obtain ⟨a, cap, c0, hrow, -⟩ := lnotes_any H1.out
    have hk := HK.out
    have d1 : (n.kind == 0) = false := beq_eq_false_iff_ne.2 (by omega)
    have d2 : decide (9 < n.kind) = false := decide_eq_false (by omega)
    have hl := HL.out
    have x0 : ∀ st : ExtW w1, st.val.cell? ⟨nq, 0, none⟩ = some (.int .i64 n.step) := fun st => st.cell (hcell HZ.out 0)
    have x2 : ∀ st : ExtW w1, st.val.cell? ⟨nq, 2, none⟩ = some (.int .u8 n.kind) := fun st => st.cell (hcell HZ.out 2)
    have y0 : ∀ st : ExtW w1, st.val.cell? ⟨nb, 0, none⟩ = some (.slice a l.length cap) := fun st => st.cell c0
    by_cases h0 : l.length = 0
    · have e0 : decide ((0 : Int) < l.length) = false := decide_eq_false (by omega)
      have e0n : decide (0 < l.length) = false := decide_eq_false (by omega)
      clear hrow c0 hk hl h0
      refine wp_region_ext (by kernel_rfl) (by kernel_rfl) ?_
      repeat (go_big_quiet_step (fail))
      refine wpQuiet_nil ?_
      rintro W ⟨⟨W2, hW⟩, rfl⟩
      clear x0 x2 y0
      have HW := Lib.hid hW
      go_wp2_with fail
      go_meet
      case rel => exact ⟨rfl, HW.out⟩
    · obtain ⟨k, hk1⟩ : ∃ k, l.length = k + 1 := ⟨l.length - 1, by omega⟩
      have hkl : k < l.length := by omega
      obtain ⟨g, rfl, hcs⟩ := row8_at hrow k hkl
      have hst : (l[k]).step ≤ n.step := HS.out _ (by rw [List.getLast?_eq_getElem?, show l.length - 1 = k by omega]; exact List.getElem?_eq_getElem hkl)
      have y1 : ∀ st : ExtW w1, st.val.cell? ⟨g, k * 8, none⟩ = some (.int .i64 (l[k]).step) := fun st => st.cell (hcs 0 (by omega))
      generalize (l[k]).step = ys at *
      clear hrow c0 hk hcs hkl h0
      generalize l.length = L at *
      subst hk1
      have e0 : decide ((0 : Int) < ((k + 1 : Nat) : Int)) = true := decide_eq_true (by omega)
      have e0n : decide (0 < k + 1) = true := decide_eq_true (by omega)
      have d3 : decide (n.step < ys) = false := decide_eq_false (by omega)
      clear hst
      refine wp_region_ext (by kernel_rfl) (by kernel_rfl) ?_
      repeat (go_big_quiet_step (fail))
      refine wpQuiet_nil ?_
      rintro W ⟨⟨W2, hW⟩, rfl⟩
      clear x0 x2 y0 y1
      have HW := Lib.hid hW
      go_wp2_with fail
      go_meet
      case rel => exact ⟨rfl, HW.out⟩
  case rest =>
  obtain ⟨hcv, hbx⟩ := hcut
  subst hcv
  have hnl := H1.out.fr (below_fr hbx (fun _ => false) false) rfl rfl
  have hnq := (hbx.block _ (Array.getElem?_eq_some_iff.1 HZ.out).1).trans HZ.out
  obtain ⟨v, hl1, hl2, hl3⟩ := hnl
  obtain ⟨ao, cap, rfl⟩ := own_sl2 hl3
  have hqlt := (Array.getElem?_eq_some_iff.1 hl1).1
  have hnlt := (Array.getElem?_eq_some_iff.1 hnq).1
  have l0 := hcell hl1 0
  have lf := hfrz hl1 0
  have l0' : ∀ o, (wc.alloc o).cell? ⟨nb, 0, none⟩ = some (.slice ao l.length cap) := fun o => by rw [World.cell?_alloc_past _ _ _ hqlt]; exact l0
  have lf' : ∀ o, (wc.alloc o).frozen? ⟨nb, 0, none⟩ = false := fun o => by rw [World.frozen?_alloc_past _ _ _ hqlt]; exact lf
  have hl := HL.out
  have dm : decide ((1048576 : Int) ≤ l.length) = false := decide_eq_false (by omega)
  have k0 : wc.cell? ⟨nq, 0, none⟩ = some (.int .i64 n.step) := hcell hnq 0
  have k1 : wc.cell? ⟨nq, 1, none⟩ = some (.int .i64 n.thread) := hcell hnq 1
  have k2 : wc.cell? ⟨nq, 2, none⟩ = some (.int .u8 n.kind) := hcell hnq 2
  have k3 : wc.cell? ⟨nq, 3, none⟩ = some (.int .i64 n.ref) := hcell hnq 3
  have k4 : wc.cell? ⟨nq, 4, none⟩ = some (.int .i64 n.bits) := hcell hnq 4
  have k5 : wc.cell? ⟨nq, 5, none⟩ = some (.int .i64 n.bucket) := hcell hnq 5
  have k6 : wc.cell? ⟨nq, 6, none⟩ = some (.int .i64 n.slot) := hcell hnq 6
  have k7 : wc.cell? ⟨nq, 7, none⟩ = some (.int .i64 n.value) := hcell hnq 7
  have E2 : Hid (l.length + 1 ≤ maxLen) := by unfold maxLen; show l.length + 1 ≤ _; omega
  have E3 : Hid ((l.length + 1) * 64 ≤ 140737488355328) := by show (l.length + 1) * 64 ≤ 140737488355328; omega
  have E4 : Hid (base ≤ wc.heap.size) := Nat.le_trans HSZ.out hbx.size
  have HNW : Hid (((wc.drew).alloc (.cells #[.int .i64 n.step, .int .i64 n.thread, .int .u8 n.kind, .int .i64 n.ref, .int .i64 n.bits, .int .i64 n.bucket, .int .i64 n.slot, .int .i64 n.value] 171)).heap[wc.heap.size]? = some (.cells #[.int .i64 n.step, .int .i64 n.thread, .int .u8 n.kind, .int .i64 n.ref, .int .i64 n.bits, .int .i64 n.bucket, .int .i64 n.slot, .int .i64 n.value] 171 (0, 0))) := heap_alloc_new (wc.drew) _
  have HW0 : Hid (Below wc.heap.size wc ((wc.drew).alloc (.cells #[.int .i64 n.step, .int .i64 n.thread, .int .u8 n.kind, .int .i64 n.ref, .int .i64 n.bits, .int .i64 n.bucket, .int .i64 n.slot, .int .i64 n.value] 171))) := ((Below.refl _ _).drew).alloc (Nat.le_refl _) _
  have HBC : Hid (Below base w0 wc) := HBB.out.trans (hbx.mono HSZ.out)
  have HFC : Hid (Fr nTy false w wc) := HFC0.out.trans (below_fr hbx _ _)
  have HL1 := Lib.hid hl1; have HL3 := Lib.hid hl3; have HLO := Lib.hid hl2
  clear hl1 hl3 hl2 hnq hbx H1 HS HK
  go_upto_region 8 with (fail)
  clear dm hl
  go_region_law ((refine step_append_lies _ (by rfl) _ _ _ (by rfl) base 171 i0 _ 8 64 Tryz.underlying165 HI.out HZ0.out HZ1.out HZ2.out rfl (by decide) (.slice ao l.length cap) l.length (l.flatMap (nteC .u8)) (by rfl) ((HL3.out.drew).alloc _) ⟨wc.heap.size, 0, none⟩ 1 1 (nteC .u8 n) (by rfl) (by rfl) (World.news_of_block (cs := #[.int .i64 n.step, .int .i64 n.thread, .int .u8 n.kind, .int .i64 n.ref, .int .i64 n.bits, .int .i64 n.bucket, .int .i64 n.slot, .int .i64 n.value]) (t := 171) (fr := (0, 0)) HNW.out) (by simp [Value.oneCell', nteC]) (by omega) E2.out E3.out (by have := E4.out; simp; omega) (wc.heap.size + 1) (by simp) ?_; intro g cap1 w4 hown1 hgrow hat hlt; have HOW := Lib.hid hown1; have HGR := Lib.hid hgrow; have hq4 : w4.heap[nb]? = some (.cells #[.slice ao l.length cap] 286 (0, 0)) := (grown_ty ((HL3.out.drew).alloc _) hgrow).cells _ _ _ _ ((HW0.out.block _ (Array.getElem?_eq_some_iff.1 HL1.out).1).trans HL1.out) rfl; have t0 := hcell hq4 0; have t1 := hfrz hq4 0; have HQ4 := Lib.hid hq4; clear hown1 hgrow hat hlt hq4))
  all_goals
    have hB4 : Below base w0 w4 := grown_below ((HL3.out.drew).alloc _) HGR.out (HBC.out.trans (HW0.out.mono E4.out)) (Nat.le_trans E4.out HW0.out.size) (Nat.le_refl _)
    have f4 : Fr nTy false wc w4 := (below_fr HW0.out _ _).trans ((grown_ty ((HL3.out.drew).alloc _) HGR.out).mono nTy_n id)
    have f5 := set_ty HQ4.out 0 (.slice (some ⟨g, 0, none⟩) (l.length + 1) cap1)
    have hB5 := set_below hB4 (Nat.le_trans E4.out f4.size) HLO.out 0 (.slice (some ⟨g, 0, none⟩) (l.length + 1) cap1)
    have hq5 := setCell_same HQ4.out 0 (.slice (some ⟨g, 0, none⟩) (l.length + 1) cap1)
    have h1 := own_fr HOW.out f5 rfl
    have FIN : Hid (NL (w4.setCell ⟨nb, 0, none⟩ (.slice (some ⟨g, 0, none⟩) (l.length + 1) cap1)) base nb 286 171 .u8 (l ++ [n]) ∧ Fr nTy false w (w4.setCell ⟨nb, 0, none⟩ (.slice (some ⟨g, 0, none⟩) (l.length + 1) cap1)) ∧ Below base w0 (w4.setCell ⟨nb, 0, none⟩ (.slice (some ⟨g, 0, none⟩) (l.length + 1) cap1))) := by
      refine ⟨⟨_, hq5, HLO.out, ?_⟩, (HFC.out.trans f4).trans (f5.mono nTy_l id), hB5⟩
      rw [List.length_append, List.flatMap_append]
      simpa using h1
    clear hB4 f4 f5 hB5 hq5 h1 HQ4 HGR HOW t0 t1 l0 l0' lf lf' k0 k1 k2 k3 k4 k5 k6 k7
    generalize w4.setCell ⟨nb, 0, none⟩ (.slice (some ⟨g, 0, none⟩) (l.length + 1) cap1) = w5 at *
    go_wp2_with fail
    go_ret
    exact ⟨⟨_, rfl⟩, FIN.out⟩
end Go.Proofs.YtmakjfeepmiggaaGreat

/-
  Addresses of a bucket's tags, and of a slot's item; the document's, too.
-/
namespace Go.Proofs.YtmakjfeepmiggaaGreat
open Go.RowKit
set_option linter.unusedVariables false

def tagsA (b u : Int) : Int := if hasP b u then 4096 + 8 * (tsize b + u) else 0
def hasS (b u s : Int) : Bool := hasP b u && decide (0 ≤ s) && decide (s < 4)
def itemA (b u s : Int) : Int := if hasS b u s then 4096 + 8 * (tsize b + u) + 1 + s else 0
theorem tsize_bd (b : Int) : 0 ≤ tsize b ∧ tsize b ≤ 4096 := by
  by_cases hb : b < 1 ∨ 12 < b
  · rw [tsize_out hb]; omega
  · have h1 := tsize_in (b := b) (by omega)
    rcases twelve (b := b) (by omega) with rfl | rfl | rfl | rfl | rfl | rfl | rfl | rfl | rfl | rfl | rfl | rfl <;> (rw [h1]; decide)
theorem u64_small (t : Int) (h : 0 ≤ t ∧ t < 1000000) : (Lit.int .u64 t).wf = true := by
  have hmin : IntKind.u64.min = 0 := rfl
  have hmax : IntKind.u64.max = 18446744073709551615 := rfl
  simp only [Lit.wf, Bool.and_eq_true, decide_eq_true_eq]; omega
theorem tagsA_bd (b u : Int) : 0 ≤ tagsA b u ∧ tagsA b u < 1000000 := by
  unfold tagsA
  split
  · rename_i h
    have := hasP_bits h; have := tsize_bd b; omega
  · omega
theorem itemA_bd (b u s : Int) : 0 ≤ itemA b u s ∧ itemA b u s < 1000000 := by
  unfold itemA hasS
  split
  · rename_i h
    simp only [Bool.and_eq_true, decide_eq_true_eq] at h
    have := hasP_bits h.1.1; have := tsize_bd b; omega
  · omega
theorem tagsA_wf (b u : Int) : (Lit.int .u64 (tagsA b u)).wf = true := u64_small _ (tagsA_bd b u)
theorem itemA_wf (b u s : Int) : (Lit.int .u64 (itemA b u s)).wf = true := u64_small _ (itemA_bd b u s)
theorem box3 (w : World) (b u s : Int) (T : TypeId) : ∀ o, (w.alloc (.cells #[.int .i64 b, .int .i64 u, .int .i64 s] T)).cell? ⟨w.heap.size, o, none⟩ = (#[.int .i64 b, .int .i64 u, .int .i64 s] : Array Value)[o]? := fun o => by
  have := heap_alloc_new w (.cells #[.int .i64 b, .int .i64 u, .int .i64 s] T)
  unfold World.cell?; simp only; rw [this]; rfl

theorem tags_any (b u : Int) (w : World) : Calls Tryz.prog 42 #[.agg #[.int .i64 b, .int .i64 u]] w fun e w' => e = .returned (.int .u64 (tagsA b u)) ∧ Below w.heap.size w w' := by
  have z0 := box2 w b u 69 0
  have z1 := box2 w b u 69 1
  have hB := below_alloc w (.cells #[.int .i64 b, .int .i64 u] 69)
  have ht := fun w => there_any b u w
  cases h : hasP b u
  · have e : tagsA b u = 0 := by unfold tagsA; rw [h]; rfl
    rw [e]
    rw [h] at ht
    clear h e
    go_enter Tryz.func42, Tryz.ntmps42
    go_wp2_with (go_at_call 122; refine (ht _).mono ?_; rintro e w1 ⟨rfl, b1⟩)
    go_ret
    exact ⟨rfl, hB.trans (b1.mono hB.size)⟩
  · have e : tagsA b u = 4096 + 8 * (tsize b + u) := by unfold tagsA; rw [h]; rfl
    rw [e]
    rw [h] at ht
    have hbd := hasP_bits h
    have htb := tsize_bd b
    have hsz := fun {w : World} (st : ExtW w) => size_ext b st
    generalize tsize b = t at *
    have e1 : wrap64 (t + u) = t + u := IntWalk.wrap64_in _ (by omega)
    have e2 : IntKind.u64.wrap (t + u) = t + u := by rw [IntKind.wrap_u64]; omega
    have e3 : IntKind.u64.wrap (8 * (t + u)) = 8 * (t + u) := by rw [IntKind.wrap_u64]; omega
    have e4 : IntKind.u64.wrap (4096 + 8 * (t + u)) = 4096 + 8 * (t + u) := by rw [IntKind.wrap_u64]; omega
    clear h e
    go_enter Tryz.func42, Tryz.ntmps42
    go_wp2_with (go_at_call 122; refine (ht _).mono ?_; rintro e w1 ⟨rfl, b1⟩; have y0 := (b1.cell (p := ⟨w.heap.size, 0, none⟩) (by simp)).trans z0; have y1 := (b1.cell (p := ⟨w.heap.size, 1, none⟩) (by simp)).trans z1; have B1 := hB.trans (b1.mono hB.size); clear z0 z1 b1 ht)
    have x0 := fun st : ExtW w1 => st.cell y0
    have x1 := fun st : ExtW w1 => st.cell y1
    refine wp_region_ext (by kernel_rfl) (by kernel_rfl) ?_
    repeat (go_big_quiet_step ((go_at_call 49; with_reducible refine calls_ext_same (hsz _))))
    refine wpQuiet_nil ?_
    rintro W ⟨⟨W2, hW⟩, rfl⟩
    clear x0 x1 y0 y1
    go_wp2
    go_ret
    exact ⟨rfl, B1.trans (hW.mono B1.size)⟩
theorem rtags_any (b u : Int) (w : World) : Calls Tryz.prog 56 #[.agg #[.int .i64 b, .int .i64 u]] w fun e w' => e = .returned (.int .u64 (tagsA b u)) ∧ Below w.heap.size w w' := by
  have z0 := box2 w b u 69 0
  have z1 := box2 w b u 69 1
  have hB := below_alloc w (.cells #[.int .i64 b, .int .i64 u] 69)
  have ht := fun w => rthere_any b u w
  cases h : hasP b u
  · have e : tagsA b u = 0 := by unfold tagsA; rw [h]; rfl
    rw [e]
    rw [h] at ht
    clear h e
    go_enter Tryz.func56, Tryz.ntmps56
    go_wp2_with (go_at_call 134; refine (ht _).mono ?_; rintro e w1 ⟨rfl, b1⟩)
    go_ret
    exact ⟨rfl, hB.trans (b1.mono hB.size)⟩
  · have e : tagsA b u = 4096 + 8 * (tsize b + u) := by unfold tagsA; rw [h]; rfl
    rw [e]
    rw [h] at ht
    have hbd := hasP_bits h
    have htb := tsize_bd b
    have hsz := fun {w : World} (st : ExtW w) => rsize_ext b st
    generalize tsize b = t at *
    have e1 : wrap64 (8 * t) = 8 * t := IntWalk.wrap64_in _ (by omega)
    have e2 : wrap64 (4096 + 8 * t) = 4096 + 8 * t := IntWalk.wrap64_in _ (by omega)
    have e3 : wrap64 (8 * u) = 8 * u := IntWalk.wrap64_in _ (by omega)
    have e4 : wrap64 (4096 + 8 * t + 8 * u) = 4096 + 8 * (t + u) := by rw [IntWalk.wrap64_in _ (by omega)]; omega
    have e5 : IntKind.u64.wrap (4096 + 8 * (t + u)) = 4096 + 8 * (t + u) := by rw [IntKind.wrap_u64]; omega
    clear h e
    go_enter Tryz.func56, Tryz.ntmps56
    go_wp2_with (go_at_call 134; refine (ht _).mono ?_; rintro e w1 ⟨rfl, b1⟩; have y0 := (b1.cell (p := ⟨w.heap.size, 0, none⟩) (by simp)).trans z0; have y1 := (b1.cell (p := ⟨w.heap.size, 1, none⟩) (by simp)).trans z1; have B1 := hB.trans (b1.mono hB.size); clear z0 z1 b1 ht)
    have x0 := fun st : ExtW w1 => st.cell y0
    have x1 := fun st : ExtW w1 => st.cell y1
    refine wp_region_ext (by kernel_rfl) (by kernel_rfl) ?_
    repeat (go_big_quiet_step ((go_at_call 51; with_reducible refine calls_ext_same (hsz _))))
    refine wpQuiet_nil ?_
    rintro W ⟨⟨W2, hW⟩, rfl⟩
    clear x0 x1 y0 y1
    go_wp2
    go_ret
    exact ⟨ret_u64 (by omega), B1.trans (hW.mono B1.size)⟩

theorem item_any (b u s : Int) (hs : (Lit.int .i64 s).wf = true) (w : World) : Calls Tryz.prog 192 #[.agg #[.int .i64 b, .int .i64 u, .int .i64 s]] w fun e w' => e = .returned (.int .u64 (itemA b u s)) ∧ Below w.heap.size w w' := by
  have z0 := box3 w b u s 71 0
  have z1 := box3 w b u s 71 1
  have z2 := box3 w b u s 71 2
  have hB := below_alloc w (.cells #[.int .i64 b, .int .i64 u, .int .i64 s] 71)
  have ht := fun w => there_any b u w
  cases h : hasS b u s
  · have e : itemA b u s = 0 := by unfold itemA; rw [h]; rfl
    rw [e]
    cases hp : hasP b u
    · rw [hp] at ht
      clear h e hp
      go_enter Tryz.func192, Tryz.ntmps192
      go_wp2_with (go_at_call 122; refine (ht _).mono ?_; rintro e w1 ⟨rfl, b1⟩)
      go_ret
      exact ⟨rfl, hB.trans (b1.mono hB.size)⟩
    · rw [hp] at ht
      have hor : s < 0 ∨ 4 ≤ s := by
        unfold hasS at h; rw [hp] at h; simp only [Bool.true_and, Bool.and_eq_false_iff, decide_eq_false_iff_not] at h; omega
      clear h e hp
      rcases hor with hs0 | hs0
      · go_enter Tryz.func192, Tryz.ntmps192
        go_wp2_with (go_at_call 122; refine (ht _).mono ?_; rintro e w1 ⟨rfl, b1⟩; have y2 := (b1.cell (p := ⟨w.heap.size, 2, none⟩) (by simp)).trans z2)
        go_ret
        exact ⟨rfl, hB.trans (b1.mono hB.size)⟩
      · have hs1 : 0 ≤ s := by omega
        have hs2 : 3 < s := by omega
        go_enter Tryz.func192, Tryz.ntmps192
        go_wp2_with (go_at_call 122; refine (ht _).mono ?_; rintro e w1 ⟨rfl, b1⟩; have y2 := (b1.cell (p := ⟨w.heap.size, 2, none⟩) (by simp)).trans z2)
        go_ret
        exact ⟨rfl, hB.trans (b1.mono hB.size)⟩
  · have e : itemA b u s = 4096 + 8 * (tsize b + u) + 1 + s := by unfold itemA; rw [h]; rfl
    simp only [hasS, Bool.and_eq_true, decide_eq_true_eq] at h
    obtain ⟨⟨hp, hs0⟩, hs4⟩ := h
    have htg : tagsA b u = 4096 + 8 * (tsize b + u) := by unfold tagsA; rw [hp]; rfl
    rw [e, ← htg]
    rw [hp] at ht
    have hbd := tagsA_bd b u
    have htag := fun {w : World} (st : ExtW w) => tags_any b u st.val
    generalize tagsA b u = t at *
    have hs3 : s ≤ 3 := by omega
    have e1 : IntKind.u64.wrap (t + 1) = t + 1 := by rw [IntKind.wrap_u64]; omega
    have e2 : IntKind.u64.wrap s = s := by rw [IntKind.wrap_u64]; omega
    have e3 : IntKind.u64.wrap (t + 1 + s) = t + 1 + s := by rw [IntKind.wrap_u64]; omega
    clear e htg hp
    go_enter Tryz.func192, Tryz.ntmps192
    go_wp2_with (go_at_call 122; refine (ht _).mono ?_; rintro e w1 ⟨rfl, b1⟩; have y0 := (b1.cell (p := ⟨w.heap.size, 0, none⟩) (by simp)).trans z0; have y1 := (b1.cell (p := ⟨w.heap.size, 1, none⟩) (by simp)).trans z1; have y2 := (b1.cell (p := ⟨w.heap.size, 2, none⟩) (by simp)).trans z2; have B1 := hB.trans (b1.mono hB.size); clear z0 z1 z2 b1 ht)
    have x0 := fun st : ExtW w1 => st.cell y0
    have x1 := fun st : ExtW w1 => st.cell y1
    have x2 := fun st : ExtW w1 => st.cell y2
    refine wp_region_ext (by kernel_rfl) (by kernel_rfl) ?_
    repeat (go_big_quiet_step ((go_at_call 42; with_reducible refine calls_ext (htag _))))
    refine wpQuiet_nil ?_
    rintro W ⟨⟨W2, hW⟩, rfl⟩
    clear x0 x1 x2 y0 y1 y2
    go_wp2
    go_ret
    exact ⟨ret_u64 (by omega), B1.trans (hW.mono B1.size)⟩

theorem ritem_any (b u s : Int) (hs : (Lit.int .i64 s).wf = true) (w : World) : Calls Tryz.prog 89 #[.agg #[.int .i64 b, .int .i64 u, .int .i64 s]] w fun e w' => e = .returned (.int .u64 (itemA b u s)) ∧ Below w.heap.size w w' := by
  have z0 := box3 w b u s 71 0
  have z1 := box3 w b u s 71 1
  have z2 := box3 w b u s 71 2
  have hB := below_alloc w (.cells #[.int .i64 b, .int .i64 u, .int .i64 s] 71)
  have ht := fun w => rthere_any b u w
  cases h : hasS b u s
  · have e : itemA b u s = 0 := by unfold itemA; rw [h]; rfl
    rw [e]
    cases hp : hasP b u
    · rw [hp] at ht
      clear h e hp
      go_enter Tryz.func89, Tryz.ntmps89
      go_wp2_with (go_at_call 134; refine (ht _).mono ?_; rintro e w1 ⟨rfl, b1⟩)
      go_ret
      exact ⟨rfl, hB.trans (b1.mono hB.size)⟩
    · rw [hp] at ht
      have hor : s < 0 ∨ 4 ≤ s := by
        unfold hasS at h; rw [hp] at h; simp only [Bool.true_and, Bool.and_eq_false_iff, decide_eq_false_iff_not] at h; omega
      clear h e hp
      rcases hor with hs0 | hs0
      · go_enter Tryz.func89, Tryz.ntmps89
        go_wp2_with (go_at_call 134; refine (ht _).mono ?_; rintro e w1 ⟨rfl, b1⟩; have y2 := (b1.cell (p := ⟨w.heap.size, 2, none⟩) (by simp)).trans z2)
        go_ret
        exact ⟨rfl, hB.trans (b1.mono hB.size)⟩
      · have hs1 : 0 ≤ s := by omega
        have hs2 : 3 < s := by omega
        go_enter Tryz.func89, Tryz.ntmps89
        go_wp2_with (go_at_call 134; refine (ht _).mono ?_; rintro e w1 ⟨rfl, b1⟩; have y2 := (b1.cell (p := ⟨w.heap.size, 2, none⟩) (by simp)).trans z2)
        go_ret
        exact ⟨rfl, hB.trans (b1.mono hB.size)⟩
  · have e : itemA b u s = 4096 + 8 * (tsize b + u) + 1 + s := by unfold itemA; rw [h]; rfl
    simp only [hasS, Bool.and_eq_true, decide_eq_true_eq] at h
    obtain ⟨⟨hp, hs0⟩, hs4⟩ := h
    have htg : tagsA b u = 4096 + 8 * (tsize b + u) := by unfold tagsA; rw [hp]; rfl
    rw [e, ← htg]
    rw [hp] at ht
    have hbd := tagsA_bd b u
    have htag := fun {w : World} (st : ExtW w) => rtags_any b u st.val
    generalize tagsA b u = t at *
    have hs3 : s ≤ 3 := by omega
    have e1 : wrap64 (1 + s) = 1 + s := IntWalk.wrap64_in _ (by omega)
    have e2 : IntKind.u64.wrap (1 + s) = 1 + s := by rw [IntKind.wrap_u64]; omega
    have e3 : IntKind.u64.wrap (t + (1 + s)) = t + (1 + s) := by rw [IntKind.wrap_u64]; omega
    clear e htg hp
    go_enter Tryz.func89, Tryz.ntmps89
    go_wp2_with (go_at_call 134; refine (ht _).mono ?_; rintro e w1 ⟨rfl, b1⟩; have y0 := (b1.cell (p := ⟨w.heap.size, 0, none⟩) (by simp)).trans z0; have y1 := (b1.cell (p := ⟨w.heap.size, 1, none⟩) (by simp)).trans z1; have y2 := (b1.cell (p := ⟨w.heap.size, 2, none⟩) (by simp)).trans z2; have B1 := hB.trans (b1.mono hB.size); clear z0 z1 z2 b1 ht)
    have x0 := fun st : ExtW w1 => st.cell y0
    have x1 := fun st : ExtW w1 => st.cell y1
    have x2 := fun st : ExtW w1 => st.cell y2
    refine wp_region_ext (by kernel_rfl) (by kernel_rfl) ?_
    repeat (go_big_quiet_step ((go_at_call 56; with_reducible refine calls_ext (htag _))))
    refine wpQuiet_nil ?_
    rintro W ⟨⟨W2, hW⟩, rfl⟩
    clear x0 x1 x2 y0 y1 y2
    go_wp2
    go_ret
    exact ⟨ret_u64 (by omega), B1.trans (hW.mono B1.size)⟩
end Go.Proofs.YtmakjfeepmiggaaGreat

/-
  Four tags in a word: the plain arithmetic (no program in sight).
-/
namespace Go.Proofs.YtmakjfeepmiggaaGreat.TagPure
open Go.RowKit

/-- The tag of slot i of the word x. -/
def tg (x : Int) (i : Nat) : Int := x / 256 ^ i % 256
/-- The word with a tag put at slot i. -/
def put (x : Int) (i : Nat) (t : Int) : Int := x - tg x i * 256 ^ i + t * 256 ^ i

theorem nat_put (k x t : Nat) (hk : k ≤ 56) (hx : x < 2 ^ 64) (ht : t < 2 ^ 8) :
    (x &&& (2 ^ k * (2 ^ 8 * (2 ^ (56 - k) - 1) + 0) + (2 ^ k - 1))) ||| (t * 2 ^ k) = 2 ^ k * (2 ^ 8 * (x / 2 ^ (k + 8)) + t) + x % 2 ^ k := by
  have hlo : x % 2 ^ k < 2 ^ k := Nat.mod_lt _ (Nat.two_pow_pos k)
  have hlo' : 2 ^ k - 1 < 2 ^ k := by have := Nat.two_pow_pos k; omega
  apply Nat.eq_of_testBit_eq
  intro j
  rw [Nat.testBit_or, Nat.testBit_and, Nat.testBit_mul_two_pow, Nat.testBit_two_pow_mul_add _ hlo, Nat.testBit_two_pow_mul_add _ hlo',
    Nat.testBit_two_pow_mul_add _ ht, Nat.testBit_two_pow_mul_add _ (by decide : (0 : Nat) < 2 ^ 8)]
  by_cases h1 : j < k
  · have : ¬ k ≤ j := by omega
    simp [h1, this, Nat.testBit_mod_two_pow, Nat.testBit_two_pow_sub_one]
  · have h1' : k ≤ j := by omega
    by_cases h2 : j - k < 8
    · simp [h1, h1', h2]
    · have e : Nat.testBit t (j - k) = false := Nat.testBit_lt_two_pow (Nat.lt_of_lt_of_le ht (Nat.pow_le_pow_right (by decide) (by omega)))
      have e2 : Nat.testBit (x / 2 ^ (k + 8)) (j - k - 8) = Nat.testBit x j := by
        rw [Nat.testBit_div_two_pow]; congr 1; omega
      simp only [h1, h2, if_false, e, e2, Bool.and_false, Bool.or_false, Nat.testBit_two_pow_sub_one]
      by_cases h3 : j < 64
      · have : j - k - 8 < 56 - k := by omega
        simp [this]
      · have : Nat.testBit x j = false := Nat.testBit_lt_two_pow (Nat.lt_of_lt_of_le hx (Nat.pow_le_pow_right (by decide) (by omega)))
        simp [this]

theorem int_put (x t : Int) (u k C : Nat) (hu : u = 2 ^ k) (hk : k ≤ 56) (hC : C = 2 ^ k * (2 ^ 8 * (2 ^ (56 - k) - 1) + 0) + (2 ^ k - 1)) (hC' : (18446744073709551615 - 255 * u : Nat) = C) (hu' : u ≤ 72057594037927936)
    (h0 : 0 ≤ x) (h1 : x < 18446744073709551616) (t0 : 0 ≤ t) (t1 : t ≤ 255) :
    bits .or .u64 (bits .andNot .u64 x (255 * (u : Int))) (t * (u : Int)) = x - x / (u : Int) % 256 * (u : Int) + t * (u : Int) := by
  obtain ⟨n, rfl⟩ := Int.eq_ofNat_of_zero_le h0
  obtain ⟨m, rfl⟩ := Int.eq_ofNat_of_zero_le t0
  have hm : m * u ≤ 255 * 72057594037927936 := Nat.mul_le_mul (by omega) hu'
  rw [u64_andNot _ _ (by omega) (by omega) (by omega) (by omega)]
  have e1 : (255 * (u : Int)).toNat = 255 * u := by omega
  have e2 : ((m : Int) * (u : Int)) = ((m * u : Nat) : Int) := by simp
  rw [e1, e2, hC']
  simp only [Int.toNat_natCast]
  have hb : n &&& C < 18446744073709551616 := Nat.lt_of_le_of_lt Nat.and_le_left (by omega)
  rw [u64_or_nat _ _ hb (by omega), hC, hu, nat_put k n m hk (by omega) (by omega)]
  have hpos : 0 < 2 ^ k := Nat.two_pow_pos k
  have a := Nat.div_add_mod n (2 ^ k)
  have b := Nat.div_add_mod (n / 2 ^ k) 256
  have c : n / 2 ^ (k + 8) = n / 2 ^ k / 256 := by rw [Nat.pow_add, Nat.div_div_eq_div_mul]
  rw [c, show (2 : Nat) ^ 8 = 256 from rfl]
  generalize 2 ^ k = P at *
  generalize hq : n / P = q at *
  generalize hr : n % P = r at *
  generalize hs : q / 256 = s at *
  generalize hv : q % 256 = v at *
  have d : ((n : Int) / (P : Int)) % 256 = (v : Int) := by
    rw [← Int.natCast_ediv, hq]; omega
  rw [d]
  have f : (n : Int) = (P : Int) * (256 * (s : Int) + (v : Int)) + (r : Int) := by
    have a' := a; rw [← b] at a'; rw [← a', Int.natCast_add, Int.natCast_mul, Int.natCast_add, Int.natCast_mul]; rfl
  rw [f]
  rw [Int.natCast_add, Int.natCast_mul, Int.natCast_add, Int.natCast_mul, show ((256 : Nat) : Int) = 256 from rfl]
  rw [Int.mul_add, Int.mul_add, Int.mul_comm (v : Int) (P : Int), Int.natCast_mul m P, Int.mul_comm (m : Int) (P : Int)]
  omega

theorem put0 (x t : Int) (h0 : 0 ≤ x) (h1 : x < 18446744073709551616) (t0 : 0 ≤ t) (t1 : t ≤ 255) :
    bits .or .u64 (bits .andNot .u64 x 255) t = put x 0 t := by
  have := int_put x t 1 0 18446744073709551360 rfl (by decide) (by decide) (by decide) (by decide) h0 h1 t0 t1
  simpa [put, tg] using this
theorem put1 (x t : Int) (h0 : 0 ≤ x) (h1 : x < 18446744073709551616) (t0 : 0 ≤ t) (t1 : t ≤ 255) :
    bits .or .u64 (bits .andNot .u64 x 65280) (t * 256) = put x 1 t := by
  have := int_put x t 256 8 18446744073709486335 rfl (by decide) (by decide) (by decide) (by decide) h0 h1 t0 t1
  simpa [put, tg] using this
theorem put2 (x t : Int) (h0 : 0 ≤ x) (h1 : x < 18446744073709551616) (t0 : 0 ≤ t) (t1 : t ≤ 255) :
    bits .or .u64 (bits .andNot .u64 x 16711680) (t * 65536) = put x 2 t := by
  have := int_put x t 65536 16 18446744073692839935 rfl (by decide) (by decide) (by decide) (by decide) h0 h1 t0 t1
  simpa [put, tg] using this
theorem put3 (x t : Int) (h0 : 0 ≤ x) (h1 : x < 18446744073709551616) (t0 : 0 ≤ t) (t1 : t ≤ 255) :
    bits .or .u64 (bits .andNot .u64 x 4278190080) (t * 16777216) = put x 3 t := by
  have := int_put x t 16777216 24 18446744069431361535 rfl (by decide) (by decide) (by decide) (by decide) h0 h1 t0 t1
  simpa [put, tg] using this
theorem and255 (x : Int) (h0 : 0 ≤ x) (h1 : x < 18446744073709551616) : bits .and .u64 x 255 = x % 256 := by
  obtain ⟨n, rfl⟩ := Int.eq_ofNat_of_zero_le h0
  rw [u64_and _ _ (by omega) h1 (by omega) (by omega)]
  simp only [Int.toNat_natCast, show (255 : Int).toNat = 255 from rfl, nat_mask8]
  omega
def tagOf (x s : Int) : Int := if 0 ≤ s ∧ s < 4 then tg x s.toNat else 0
def withOf (x s t : Int) : Int := if (0 ≤ s ∧ s < 4) ∧ 0 ≤ t ∧ t ≤ 255 then put x s.toNat t else x
end Go.Proofs.YtmakjfeepmiggaaGreat.TagPure

/-
  The walks of nestboxref02: the part that stands without package tagwords: a tag; a word with a tag.
-/
namespace Go.Proofs.YtmakjfeepmiggaaGreat
open Go.RowKit TagPure
set_option linter.unusedVariables false

theorem tg_bd (x : Int) (i : Nat) : 0 ≤ tg x i ∧ tg x i ≤ 255 := by unfold tg; omega

theorem rtag_in (x : Int) (n : Nat) (w : World) (h0 : 0 ≤ x) (h1 : x < 18446744073709551616) (hn : n < 4) :
    Calls Tryz.prog 60 #[.int .u64 x, .int .i64 n] w fun e w' => e = .returned (.int .i64 (tg x n)) ∧ w = w' := by
  go_enter Tryz.func60, Tryz.ntmps60
  go_wp2
  go_loop [0, 5] (fun y i => ∃ (k : Nat) (d : Int), k ≤ n ∧ i = .int .i64 k ∧ y = .int .u64 d ∧ 0 ≤ d ∧ d ≤ x ∧ d = x / 256 ^ k) (fun _ i => n - (intOf i).toNat)
  case atStart => exact ⟨0, x, by omega, rfl, rfl, h0, Int.le_refl _, by simp⟩
  case round =>
    obtain ⟨k, d, hk, rfl, rfl, hd0, hd1, hd⟩ := hrel
    have HD := Lib.hid hd
    clear hd
    by_cases hlt : k < n
    · go_wp2
      go_round
      case rel => exact ⟨k + 1, d / 256, by omega, by go_num, rfl, by omega, by omega, by rw [HD.out, Int.pow_succ, Int.ediv_ediv_of_nonneg (by exact Int.le_of_lt (Int.pow_pos (by decide)))]⟩
      case measure => simp [intOf]; omega
    · obtain rfl : k = n := by omega
      go_wp2
      go_ret
      exact ⟨ret_i64 (by rw [HD.out]; rfl), rfl⟩
theorem rtag_out (x s : Int) (w : World) (h : s < 0 ∨ 4 ≤ s) :
    Calls Tryz.prog 60 #[.int .u64 x, .int .i64 s] w fun e w' => e = .returned (.int .i64 0) ∧ w = w' := by
  by_cases hs : s < 0
  · go_enter Tryz.func60, Tryz.ntmps60
    go_wp2
    go_ret
    exact ⟨rfl, rfl⟩
  · have hs' : 0 ≤ s := by omega
    have hs2 : 3 < s := by omega
    go_enter Tryz.func60, Tryz.ntmps60
    go_wp2
    go_ret
    exact ⟨rfl, rfl⟩
theorem rtag_any (x s : Int) (w : World) (h0 : 0 ≤ x) (h1 : x < 18446744073709551616) :
    Calls Tryz.prog 60 #[.int .u64 x, .int .i64 s] w fun e w' => e = .returned (.int .i64 (tagOf x s)) ∧ w = w' := by
  by_cases h : 0 ≤ s ∧ s < 4
  · unfold tagOf; rw [if_pos h]
    have := rtag_in x s.toNat w h0 h1 (by omega)
    rwa [Int.toNat_of_nonneg h.1] at this
  · unfold tagOf; rw [if_neg h]; exact rtag_out x s w (by omega)

theorem rwith_out (x s t : Int) (w : World) (h : (s < 0 ∨ 4 ≤ s) ∨ t < 0 ∨ 255 < t) :
    Calls Tryz.prog 131 #[.int .u64 x, .int .i64 s, .int .i64 t] w fun e w' => e = .returned (.int .u64 x) ∧ w = w' := by
  by_cases hs : s < 0
  · go_enter Tryz.func131, Tryz.ntmps131
    go_wp2
    go_ret
    exact ⟨rfl, rfl⟩
  · have hs' : 0 ≤ s := by omega
    by_cases hs2 : 3 < s
    · go_enter Tryz.func131, Tryz.ntmps131
      go_wp2
      go_ret
      exact ⟨rfl, rfl⟩
    · have hs3 : s ≤ 3 := by omega
      by_cases ht : t < 0
      · go_enter Tryz.func131, Tryz.ntmps131
        go_wp2
        go_ret
        exact ⟨rfl, rfl⟩
      · have ht' : 0 ≤ t := by omega
        have ht2 : 255 < t := by omega
        go_enter Tryz.func131, Tryz.ntmps131
        go_wp2
        go_ret
        exact ⟨rfl, rfl⟩
theorem put_bd (x t : Int) (n : Nat) (h0 : 0 ≤ x) (h1 : x < 18446744073709551616) (hn : n < 4) (t0 : 0 ≤ t) (t1 : t ≤ 255) :
    0 ≤ x - tg x n * 256 ^ n ∧ x - tg x n * 256 ^ n + t * 256 ^ n < 18446744073709551616 := by
  match n, hn with
  | 0, _ => simp only [tg]; omega
  | 1, _ => simp only [tg]; omega
  | 2, _ => simp only [tg]; omega
  | 3, _ => simp only [tg]; omega
theorem put_u64 (x t : Int) (n : Nat) (h0 : 0 ≤ x) (h1 : x < 18446744073709551616) (hn : n < 4) (t0 : 0 ≤ t) (t1 : t ≤ 255) : 0 ≤ put x n t ∧ put x n t < 18446744073709551616 := by
  have := put_bd x t n h0 h1 hn t0 t1
  have e : 0 ≤ t * 256 ^ n := Int.mul_nonneg t0 (Int.le_of_lt (Int.pow_pos (by decide)))
  unfold put; omega
set_option maxHeartbeats 800000 in
theorem rwith_in (x t : Int) (n : Nat) (w : World) (h0 : 0 ≤ x) (h1 : x < 18446744073709551616) (hn : n < 4) (t0 : 0 ≤ t) (t1 : t ≤ 255) :
    Calls Tryz.prog 131 #[.int .u64 x, .int .i64 n, .int .i64 t] w fun e w' => e = .returned (.int .u64 (put x n t)) ∧ w = w' := by
  have hb := put_bd x t n h0 h1 hn t0 t1
  have ht := tg_bd x n
  match n, hn with
  | 0, hn =>
    simp only [Int.pow_zero, Int.mul_one] at hb
    go_enter Tryz.func131, Tryz.ntmps131
    go_wp2_with fail
    refine wp_loop_rounds 1 ?_
    rw [rounds_succ]
    go_wp2_with (go_at_call 60; refine (rtag_in x 0 _ h0 h1 hn).mono ?_; rintro e w' ⟨rfl, rfl⟩)
    go_ret
    exact ⟨ret_u64 (by simp [put]), rfl⟩
  | 1, hn =>
    have e : (256 : Int) ^ 1 = 256 := rfl
    rw [e] at hb
    clear e
    go_enter Tryz.func131, Tryz.ntmps131
    go_wp2_with fail
    refine wp_loop_rounds 2 ?_
    rw [rounds_succ]
    go_wp2_with fail
    rw [rounds_succ]
    go_wp2_with (go_at_call 60; refine (rtag_in x 1 _ h0 h1 hn).mono ?_; rintro e w' ⟨rfl, rfl⟩)
    go_ret
    exact ⟨ret_u64 rfl, rfl⟩
  | 2, hn =>
    have e : (256 : Int) ^ 2 = 65536 := rfl
    rw [e] at hb
    clear e
    go_enter Tryz.func131, Tryz.ntmps131
    go_wp2_with fail
    refine wp_loop_rounds 3 ?_
    rw [rounds_succ]
    go_wp2_with fail
    rw [rounds_succ]
    go_wp2_with fail
    rw [rounds_succ]
    go_wp2_with (go_at_call 60; refine (rtag_in x 2 _ h0 h1 hn).mono ?_; rintro e w' ⟨rfl, rfl⟩)
    go_ret
    exact ⟨ret_u64 rfl, rfl⟩
  | 3, hn =>
    have e : (256 : Int) ^ 3 = 16777216 := rfl
    rw [e] at hb
    clear e
    go_enter Tryz.func131, Tryz.ntmps131
    go_wp2_with fail
    refine wp_loop_rounds 4 ?_
    rw [rounds_succ]
    go_wp2_with fail
    rw [rounds_succ]
    go_wp2_with fail
    rw [rounds_succ]
    go_wp2_with fail
    rw [rounds_succ]
    go_wp2_with (go_at_call 60; refine (rtag_in x 3 _ h0 h1 hn).mono ?_; rintro e w' ⟨rfl, rfl⟩)
    go_ret
    exact ⟨ret_u64 rfl, rfl⟩

theorem rwith_any (x s t : Int) (w : World) (h0 : 0 ≤ x) (h1 : x < 18446744073709551616) :
    Calls Tryz.prog 131 #[.int .u64 x, .int .i64 s, .int .i64 t] w fun e w' => e = .returned (.int .u64 (withOf x s t)) ∧ w = w' := by
  by_cases h : (0 ≤ s ∧ s < 4) ∧ 0 ≤ t ∧ t ≤ 255
  · unfold withOf; rw [if_pos h]
    have := rwith_in x t s.toNat w h0 h1 (by omega) h.2.1 h.2.2
    rwa [Int.toNat_of_nonneg h.1.1] at this
  · unfold withOf; rw [if_neg h]; exact rwith_out x s t w (by omega)
end Go.Proofs.YtmakjfeepmiggaaGreat

/-
  The document's places of a key, as far as a put asks: there is one; a hash, a tag: whatever they are.
-/
namespace Go.Proofs.YtmakjfeepmiggaaGreat
open Go.RowKit
set_option linter.unusedVariables false

def SomeU64 (w : World) (e : Ending) (w' : World) : Prop := (∃ h : Int, e = .returned (.int .u64 h) ∧ (0 ≤ h ∧ h < 18446744073709551616)) ∧ w' = w
def SomeI64 (w : World) (e : Ending) (w' : World) : Prop := (∃ h : Int, e = .returned (.int .i64 h)) ∧ w' = w
theorem u64_bd (x : Int) : 0 ≤ IntKind.u64.wrap x ∧ IntKind.u64.wrap x < 18446744073709551616 := by rw [IntKind.wrap_u64]; omega
theorem rhash_any (key : ByteArray) (hk : key.size ≤ 1000000) (w : World) : Calls Tryz.prog 87 #[.string key] w (SomeU64 w) := by
  go_enter Tryz.func87, Tryz.ntmps87
  go_wp2
  go_loop [3, 4] (fun h i => ∃ (k : Nat) (y : Int), k ≤ key.size ∧ i = .int .i64 k ∧ h = .int .u64 y ∧ 0 ≤ y ∧ y < 18446744073709551616) (fun _ i => key.size - (intOf i).toNat)
  case atStart => exact ⟨0, _, by omega, rfl, rfl, by decide, by decide⟩
  case round =>
    obtain ⟨k, y, hk2, rfl, rfl, hy0, hy1⟩ := hrel
    by_cases hlt : k < key.size
    · have hlt' : (k : Int) < key.size := by omega
      go_wp2
      go_round
      case rel => exact ⟨k + 1, _, by omega, by go_num, rfl, (u64_bd _).1, (u64_bd _).2⟩
      case measure => simp [intOf]; omega
    · obtain rfl : k = key.size := by omega
      go_wp2
      go_ret
      exact ⟨⟨_, rfl, hy0, hy1⟩, rfl⟩
def tag01 (x : Int) : Int := if x / 72057594037927936 = 0 then 1 else x / 72057594037927936
theorem rtag01_any (x : Int) (h0 : 0 ≤ x) (h1 : x < 18446744073709551616) (w : World) : Calls Tryz.prog 111 #[.int .u64 x] w fun e w' => e = .returned (.int .i64 (tag01 x)) ∧ w' = w := by
  go_enter Tryz.func111, Tryz.ntmps111
  go_wp2
  go_loop [0, 3] (fun h i => ∃ (k : Nat) (y : Int), k ≤ 56 ∧ i = .int .i64 k ∧ h = .int .u64 y ∧ 0 ≤ y ∧ y < 18446744073709551616 ∧ y = x / ((2 ^ k : Nat) : Int)) (fun _ i => 56 - (intOf i).toNat)
  case atStart => exact ⟨0, _, by omega, rfl, rfl, h0, h1, by simp⟩
  case round =>
    obtain ⟨k, y, hk2, rfl, rfl, hy0, hy1, hy⟩ := hrel
    have HY := Lib.hid hy
    clear hy
    by_cases hlt : k < 56
    · have hlt' : (k : Int) < 56 := by omega
      go_wp2
      go_round
      case rel => exact ⟨k + 1, _, by omega, by go_num, rfl, by omega, by omega, by rw [HY.out, Nat.pow_succ, Int.natCast_mul, Int.ediv_ediv_of_nonneg (Int.natCast_nonneg _)]; rfl⟩
      case measure => simp [intOf]; omega
    · obtain rfl : k = 56 := by omega
      have hy : y = x / 72057594037927936 := HY.out
      have HT : Hid (tag01 x = if y = 0 then 1 else y) := by show tag01 x = _; rw [hy]; rfl
      have hyb : y < 256 := by omega
      clear HY hy
      by_cases hz : y = 0
      · subst hz
        go_wp2
        go_ret
        exact ⟨ret_i64 (by rw [HT.out]; rfl), rfl⟩
      · have hb : (y == 0) = false := beq_eq_false_iff_ne.2 hz
        have HT2 : Hid (tag01 x = y) := by show tag01 x = _; rw [HT.out, if_neg hz]
        clear hz HT
        go_wp2
        go_ret
        exact ⟨ret_i64 HT2.out.symm, rfl⟩
theorem rbucket_any (x b : Int) (h0 : 0 ≤ x) (h1 : x < 18446744073709551616) (w : World) : Calls Tryz.prog 110 #[.int .u64 x, .int .i64 b] w (SomeI64 w) := by
  have ht := tsize_bd b
  have hs := rsize_any b
  generalize tsize b = t at *
  by_cases h : t = 0
  · subst h
    go_enter Tryz.func110, Tryz.ntmps110
    go_wp2_with (go_at_call 51; refine (hs _).mono ?_; rintro e w1 ⟨rfl, rfl⟩)
    go_ret
    exact ⟨⟨_, rfl⟩, rfl⟩
  · have e0 : (t == 0) = false := beq_eq_false_iff_ne.2 h
    have e1 : IntKind.u64.wrap t = t := by rw [IntKind.wrap_u64]; omega
    have ht1 : 1 ≤ t := by omega
    clear h
    go_enter Tryz.func110, Tryz.ntmps110
    go_wp2_with (go_at_call 51; refine (hs _).mono ?_; rintro e w1 ⟨rfl, rfl⟩)
    go_ret
    exact ⟨⟨_, rfl⟩, rfl⟩
def oth01 (k t b : Int) : Int := if k < 0 ∨ tsize b ≤ k ∨ t < 1 ∨ 255 < t then -1 else bits .xor .i64 k (t * 1540483477 % tsize b)
theorem rother01_any (k t b : Int) (w : World) : Calls Tryz.prog 59 #[.int .i64 k, .int .i64 t, .int .i64 b] w fun e w' => e = .returned (.int .i64 (oth01 k t b)) ∧ w' = w := by
  have hb := tsize_bd b
  have hs := rsize_any b
  unfold oth01
  generalize tsize b = n at *
  by_cases hc : k < 0 ∨ n ≤ k ∨ t < 1 ∨ 255 < t
  · rw [if_pos hc]
    by_cases h0 : k < 0
    · go_enter Tryz.func59, Tryz.ntmps59
      go_wp2_with (go_at_call 51; refine (hs _).mono ?_; rintro e w1 ⟨rfl, rfl⟩)
      all_goals go_ret
      all_goals exact ⟨rfl, rfl⟩
    have h0' : 0 ≤ k := by omega
    by_cases h1 : n ≤ k
    · go_enter Tryz.func59, Tryz.ntmps59
      go_wp2_with (go_at_call 51; refine (hs _).mono ?_; rintro e w1 ⟨rfl, rfl⟩)
      all_goals go_ret
      all_goals exact ⟨rfl, rfl⟩
    have h1' : k < n := by omega
    by_cases h2 : t < 1
    · go_enter Tryz.func59, Tryz.ntmps59
      go_wp2_with (go_at_call 51; refine (hs _).mono ?_; rintro e w1 ⟨rfl, rfl⟩)
      all_goals go_ret
      all_goals exact ⟨rfl, rfl⟩
    have h2' : 1 ≤ t := by omega
    have h3 : 255 < t := by omega
    go_enter Tryz.func59, Tryz.ntmps59
    go_wp2_with (go_at_call 51; refine (hs _).mono ?_; rintro e w1 ⟨rfl, rfl⟩)
    all_goals go_ret
    all_goals exact ⟨rfl, rfl⟩
  · rw [if_neg hc]
    have h0' : 0 ≤ k := by omega
    have h1' : k < n := by omega
    have h2' : 1 ≤ t := by omega
    have h3' : t ≤ 255 := by omega
    have hn1 : 1 ≤ n := by omega
    have hm : 0 ≤ t * 1540483477 % n ∧ t * 1540483477 % n < n := ⟨Int.emod_nonneg _ (by omega), Int.emod_lt_of_pos _ (by omega)⟩
    have e1 : IntKind.u64.wrap n = n := by rw [IntKind.wrap_u64]; omega
    have e2 : IntKind.u64.wrap t = t := by rw [IntKind.wrap_u64]; omega
    have e3 : (n == 0) = false := beq_eq_false_iff_ne.2 (by omega)
    have e4 : wrap64 (t * 1540483477 % n) = t * 1540483477 % n := IntWalk.wrap64_in _ (by omega)
    clear hc
    go_enter Tryz.func59, Tryz.ntmps59
    go_wp2_with (go_at_call 51; refine (hs _).mono ?_; rintro e w1 ⟨rfl, rfl⟩)
    go_ret
    exact ⟨rfl, rfl⟩

def flatP (l : List (Int × Int)) : List Value := l.flatMap fun p => [.int .i64 p.1, .int .i64 p.2]
theorem flatP_len (l : List (Int × Int)) : (flatP l).length = l.length * 2 := by
  unfold flatP
  induction l with
  | nil => rfl
  | cons p l ih => simp only [List.flatMap_cons, List.length_append, ih, List.length_cons, List.length_nil]; omega
theorem flatP_at (l : List (Int × Int)) (i : Nat) (hi : i < l.length) : (flatP l)[i * 2]? = some (.int .i64 (l[i]).1) ∧ (flatP l)[i * 2 + 1]? = some (.int .i64 (l[i]).2) := by
  induction l generalizing i with
  | nil => simp at hi
  | cons p l ih =>
    have e : flatP (p :: l) = .int .i64 p.1 :: .int .i64 p.2 :: flatP l := rfl
    rw [e]
    cases i with
    | zero => exact ⟨rfl, rfl⟩
    | succ i =>
      have := ih i (by simpa using hi)
      rw [show (i + 1) * 2 = i * 2 + 1 + 1 by omega]
      simpa using this
theorem flatP_snoc (l : List (Int × Int)) (a v : Int) : flatP (l ++ [(a, v)]) = flatP l ++ [.int .i64 a, .int .i64 v] := by simp [flatP]
theorem info_plc : (Tryz.prog.info? 69).map (fun i => (i.zero, i.size, i.bytes)) = some (some (.agg #[.int .i64 0, .int .i64 0]), 2, 16) := by kernel_rfl
theorem info_int : (Tryz.prog.info? 3).map (fun i => (i.zero, i.size, i.bytes)) = some (some (.int .i64 0), 1, 8) := by kernel_rfl
/-- Places that the call itself made. -/
def PlR (w : World) (base : Nat) (v : Value) (l : List (Int × Int)) : Prop := w.ownsRow base 69 2 v l.length (flatP l)
theorem PlR.read {w : World} {base : Nat} {v : Value} {l : List (Int × Int)} (h : PlR w base v l) : ∃ a cap, v = .slice a l.length cap ∧ l.length ≤ maxLen ∧ (0 < l.length → ∃ g, a = some ⟨g, 0, none⟩ ∧ base ≤ g ∧ ∀ i, (hi : i < l.length) → w.cell? ⟨g, i * 2, none⟩ = some (.int .i64 (l[i]).1) ∧ w.cell? ⟨g, i * 2 + 1, none⟩ = some (.int .i64 (l[i]).2)) := by
  obtain ⟨h1, ⟨rfl, h0⟩ | ⟨g, cap, cur, rfl, hb, hg, hn, hm, hs, ht⟩⟩ := h
  · exact ⟨none, 0, by rw [h0], by omega, fun h => by omega⟩
  · refine ⟨_, cap, rfl, by omega, fun _ => ⟨g, rfl, hb, fun i hi => ?_⟩⟩
    obtain ⟨f0, f1⟩ := flatP_at l i hi
    rw [← ht, List.getElem?_take, if_pos (by omega)] at f0 f1
    simp only [Array.getElem?_toList] at f0 f1
    simp [World.cell?, hg, f0, f1]
/-- What is left: places, at least one, at most one more. -/
def WithPost (w : World) (base n : Nat) (e : Ending) (w' : World) : Prop := ∃ v' l', e = .returned v' ∧ PlR w' base v' l' ∧ 1 ≤ l'.length ∧ l'.length ≤ n + 1 ∧ Below base w w'
set_option maxHeartbeats 1000000 in
theorem rwith8_any (w : World) (base : Nat) (v : Value) (l : List (Int × Int)) (hb : base ≤ w.heap.size) (h : PlR w base v l) (hl : l.length ≤ 1000) (b u : Int) : Calls Tryz.prog 154 #[v, .agg #[.int .i64 b, .int .i64 u]] w (WithPost w base l.length) := by
  obtain ⟨a, cap, rfl, hm, hc⟩ := h.read
  obtain ⟨i0, hi0, hz0, hz1, hz2⟩ := info_parts info_plc
  have HI := Lib.hid hi0; have HZ0 := Lib.hid hz0; have HZ1 := Lib.hid hz1; have HZ2 := Lib.hid hz2
  have HC := Lib.hid hc; have HH := Lib.hid h; have HL := Lib.hid hl; have HBS := Lib.hid hb
  unfold maxLen at hm
  have hq := box2 w b u 69
  have hB0 := below_alloc w (.cells #[.int .i64 b, .int .i64 u] 69)
  have HQ := Lib.hid hq; have HB0 := Lib.hid hB0
  clear h hl hc hi0 hz0 hz1 hz2 hq hB0 hb
  go_enter Tryz.func154, Tryz.ntmps154
  go_wp2
  go_loopw [5] (fun i wr => ∃ k : Nat, k ≤ l.length ∧ i = .int .i64 k ∧ Below (w.heap.size + 1) (w.alloc (.cells #[.int .i64 b, .int .i64 u] 69)) wr) (fun i _ => l.length - (intOf i).toNat)
  case atStart => exact ⟨0, by omega, rfl, Below.refl _ _⟩
  case round =>
    obtain ⟨k, hk, rfl, hbl⟩ := hrel
    have hq0 := (hbl.cell (p := ⟨w.heap.size, 0, none⟩) (by simp)).trans (HQ.out 0)
    have hq1 := (hbl.cell (p := ⟨w.heap.size, 1, none⟩) (by simp)).trans (HQ.out 1)
    have hbw : Below w.heap.size w wr := HB0.out.trans (hbl.mono (by simp))
    by_cases hlt : k < l.length
    · obtain ⟨g, rfl, hgb, hrow⟩ := HC.out (by omega)
      obtain ⟨r0, r1⟩ := hrow k hlt
      have r0 := (hbw.cell (World.block_lt_of_cell? _ _ r0)).trans r0
      have r1 := (hbw.cell (World.block_lt_of_cell? _ _ r1)).trans r1
      generalize l[k] = p at *
      obtain ⟨pb, pu⟩ := p
      simp only at r0 r1
      have x0 := fun st : ExtW wr => st.cell r0
      have x1 := fun st : ExtW wr => st.cell r1
      have x2 := fun st : ExtW wr => st.cell hq0
      have x3 := fun st : ExtW wr => st.cell hq1
      have hlt' : (k : Int) < l.length := by omega
      have HB := Lib.hid hbl; have HBW := Lib.hid hbw
      clear r0 r1 hq0 hq1 hrow hbl hbw
      cases h0 : (pb == b)
      all_goals (cases h1 : (pu == u))
      all_goals go_wp2
      all_goals (refine wp_region_ext (by kernel_rfl) (by kernel_rfl) ?_)
      all_goals (repeat (go_big_quiet_step (fail)))
      all_goals (refine wpQuiet_nil ?_)
      all_goals (rintro W ⟨⟨W2, hW⟩, rfl⟩)
      all_goals (clear x0 x1 x2 x3)
      all_goals (have hs : w.heap.size + 1 ≤ wr.heap.size := by have := HB.out.size; simpa using this)
      all_goals (have HW1 := Lib.hid (HB.out.trans (hW.mono hs)))
      all_goals (have HW2 := Lib.hid (HBW.out.trans (hW.mono HBW.out.size)))
      all_goals (clear hW hs)
      all_goals go_wp2
      all_goals (first
        | (go_ret; exact ⟨_, l, rfl, rown_below HH.out HW2.out, by omega, by omega, HW2.out.mono HBS.out⟩)
        | (go_roundw
           case rel => exact ⟨k + 1, by omega, by go_num, HW1.out⟩
           case measure => simp [intOf]; omega))
    · obtain rfl : k = l.length := by omega
      have hrow := rown_below HH.out hbw
      have HB := Lib.hid hbw; have HR := Lib.hid hrow
      have hsz : w.heap.size ≤ wr.heap.size := hbw.size
      clear hbl hbw hrow
      go_wp2_with (at_builtin; refine wpList_append_own _ rfl _ _ 72 rfl base 69 i0 (.agg #[.int .i64 0, .int .i64 0]) 2 16 Tryz.underlying72 HI.out HZ0.out HZ1.out HZ2.out rfl (by decide) _ _ _ rfl (HR.out.alloc _) ⟨_, 0, none⟩ 1 1 [.int .i64 b, .int .i64 u] rfl rfl (World.news_of_block (cs := #[.int .i64 b, .int .i64 u]) (t := 69) (fr := (0, 0)) (heap_alloc_new _ _)) ?c2 ?c3 ?c4 ?c5 ?_)
      case c2 => simp [Value.oneCell']
      case c3 => have := HL.out; unfold maxLen; omega
      case c4 => have := HL.out; omega
      case c5 => have := HBS.out; first | omega | (simp; omega)
      intro v' w2 hown' hgrow _
      have hb2 : Below base w w2 := ((HB.out.mono HBS.out).alloc (Nat.le_trans HBS.out hsz) (.cells #[.int .i64 b, .int .i64 u] 69)).grown hgrow (by simp; have := HBS.out; omega) (fun j hj => (HR.out.lt j hj).1)
      have HO2 := Lib.hid hown'; have HB2 := Lib.hid hb2
      clear hown' hgrow hb2
      go_wp2
      go_ret
      exact ⟨_, l ++ [(b, u)], rfl, by unfold PlR; rw [flatP_snoc, show (l ++ [(b, u)]).length = l.length + 1 by simp]; exact HO2.out, by simp, by simp, HB2.out⟩

theorem ras_any (v : Int) (h0 : 0 ≤ v) (h1 : v < 18446744073709551616) (w : World) : Calls Tryz.prog 153 #[.int .u64 v] w fun e w' => e = .returned (.tuple #[.int .i64 (asOld v), .int .i64 (asNow v)]) ∧ w' = w := by
  have hz : ∀ b, tsize b = 0 ↔ (b < 1 ∨ 12 < b) := fun b => by
    constructor
    · intro h
      by_cases hb : b < 1 ∨ 12 < b
      · exact hb
      · rw [tsize_in (by omega)] at h
        have := Int.pow_pos (m := b.toNat) (show (0 : Int) < 2 by decide)
        omega
    · exact tsize_out
  have eo : asOld v = if v % 256 < 1 ∨ 12 < v % 256 then 1 else v % 256 := by
    unfold asOld; simp only [hz]
  have en : asNow v = if 12 < v / 256 % 256 ∨ v / 256 % 256 ≠ asOld v + 1 then 0 else v / 256 % 256 := by
    have : 1 ≤ asOld v := by rw [eo]; split <;> omega
    unfold asNow
    simp only [hz]
    split <;> split <;> omega
  rw [en, eo]
  have b0 : 0 ≤ v % 256 ∧ v % 256 < 256 := by omega
  have b1 : 0 ≤ v / 256 % 256 ∧ v / 256 % 256 < 256 := by omega
  have w0 : wrap64 (v % 256) = v % 256 := IntWalk.wrap64_in _ (by omega)
  have w1 : wrap64 (v / 256 % 256) = v / 256 % 256 := IntWalk.wrap64_in _ (by omega)
  clear en eo hz
  generalize ev : v % 256 = o at *
  generalize en : v / 256 % 256 = n at *
  have fin : ∀ (o2 n2 : Int), (if 12 < n ∨ n ≠ (if o < 1 ∨ 12 < o then 1 else o) + 1 then 0 else n) = n2 → (if o < 1 ∨ 12 < o then 1 else o) = o2 → Ending.returned (.tuple #[.int .i64 o2, .int .i64 n2]) =
      .returned (.tuple #[.int .i64 (if o < 1 ∨ 12 < o then 1 else o), .int .i64 (if 12 < n ∨ n ≠ (if o < 1 ∨ 12 < o then 1 else o) + 1 then 0 else n)]) := fun o2 n2 h1 h2 => by rw [h1, h2]
  have FIN := Lib.hid fin
  clear fin
  generalize hr : (Ending.returned (.tuple #[.int .i64 (if o < 1 ∨ 12 < o then 1 else o), .int .i64 (if 12 < n ∨ n ≠ (if o < 1 ∨ 12 < o then 1 else o) + 1 then 0 else n)])) = r
  have HR := Lib.hid hr
  clear hr
  by_cases h12 : 12 < n
  · have F : Hid (∀ o2, (if o < 1 ∨ 12 < o then 1 else o) = o2 → Ending.returned (.tuple #[.int .i64 o2, .int .i64 0]) = r) := fun o2 h => by rw [← HR.out]; exact FIN.out o2 0 (by rw [if_pos (.inl h12)]) h
    clear FIN HR
    by_cases o1 : o < 1
    · go_enter Tryz.func153, Tryz.ntmps153
      go_wp2
      go_ret2
      exact ⟨F.out 1 (by rw [if_pos (.inl o1)]), rfl⟩
    · by_cases o2 : 12 < o
      · have o1' : 1 ≤ o := by omega
        go_enter Tryz.func153, Tryz.ntmps153
        go_wp2
        go_ret2
        exact ⟨F.out 1 (by rw [if_pos (.inr o2)]), rfl⟩
      · have o1' : 1 ≤ o := by omega
        have o2' : o ≤ 12 := by omega
        go_enter Tryz.func153, Tryz.ntmps153
        go_wp2
        go_ret2
        exact ⟨F.out o (by rw [if_neg (by omega)]), rfl⟩
  · have h12' : n ≤ 12 := by omega
    by_cases o1 : o < 1 ∨ 12 < o
    · by_cases hn : n = 2
      · subst hn
        have F : Hid (Ending.returned (.tuple #[.int .i64 1, .int .i64 2]) = r) := by show _ = r; rw [← HR.out]; exact FIN.out 1 2 (by rw [if_pos o1]; rfl) (by rw [if_pos o1])
        clear FIN HR
        rcases o1 with o1 | o1
        · go_enter Tryz.func153, Tryz.ntmps153
          go_wp2
          go_ret2
          exact ⟨F.out, rfl⟩
        · have o1' : 1 ≤ o := by omega
          go_enter Tryz.func153, Tryz.ntmps153
          go_wp2
          go_ret2
          exact ⟨F.out, rfl⟩
      · have hb : (n != 2) = true := bne_iff_ne.2 hn
        have F : Hid (Ending.returned (.tuple #[.int .i64 1, .int .i64 0]) = r) := by show _ = r; rw [← HR.out]; exact FIN.out 1 0 (by rw [if_pos o1, if_pos (.inr hn)]) (by rw [if_pos o1])
        clear FIN HR hn
        rcases o1 with o1 | o1
        · go_enter Tryz.func153, Tryz.ntmps153
          go_wp2
          go_ret2
          exact ⟨F.out, rfl⟩
        · have o1' : 1 ≤ o := by omega
          go_enter Tryz.func153, Tryz.ntmps153
          go_wp2
          go_ret2
          exact ⟨F.out, rfl⟩
    · have o1' : 1 ≤ o := by omega
      have o2' : o ≤ 12 := by omega
      by_cases hn : n = o + 1
      · have hb : (n != o + 1) = false := by simp [hn]
        have F : Hid (Ending.returned (.tuple #[.int .i64 o, .int .i64 n]) = r) := by show _ = r; rw [← HR.out]; exact FIN.out o n (by rw [if_neg o1, if_neg (by omega)]) (by rw [if_neg o1])
        clear FIN HR hn o1
        go_enter Tryz.func153, Tryz.ntmps153
        go_wp2
        go_ret2
        exact ⟨F.out, rfl⟩
      · have hb : (n != o + 1) = true := bne_iff_ne.2 hn
        have F : Hid (Ending.returned (.tuple #[.int .i64 o, .int .i64 0]) = r) := by show _ = r; rw [← HR.out]; exact FIN.out o 0 (by rw [if_neg o1, if_pos (.inr hn)]) (by rw [if_neg o1])
        clear FIN HR hn o1
        go_enter Tryz.func153, Tryz.ntmps153
        go_wp2
        go_ret2
        exact ⟨F.out, rfl⟩

theorem own_lower {w : World} {base base' e size n : Nat} {v : Value} {xs : List Value} (h : w.ownsRow base e size v n xs) (hb : base' ≤ base) : w.ownsRow base' e size v n xs := by
  obtain ⟨h1, h2 | ⟨g, cap, cur, h3, h4, h5⟩⟩ := h
  · exact ⟨h1, .inl h2⟩
  · exact ⟨h1, .inr ⟨g, cap, cur, h3, Nat.le_trans hb h4, h5⟩⟩
def PlacesPost (w : World) (e : Ending) (w' : World) : Prop := ∃ pv l, e = .returned pv ∧ PlR w' w.heap.size pv l ∧ 1 ≤ l.length ∧ l.length ≤ 4 ∧ Below w.heap.size w w'
set_option maxRecDepth 10000 in
set_option maxHeartbeats 2000000 in
theorem rplaces_one (x v : Int) (h0 : 0 ≤ x) (h1 : x < 18446744073709551616) (v0 : 0 ≤ v) (v1 : v < 18446744073709551616) (hn : asNow v = 0) (w : World) : Calls Tryz.prog 86 #[.int .u64 x, .int .u64 v] w (PlacesPost w) := by
  have ha := ras_any v v0 v1 w
  rw [hn] at ha
  clear hn
  generalize asOld v = o at *
  obtain ⟨W, hWe⟩ : ∃ W, W = w.alloc (.cells #[.int .i64 o] 3) := ⟨_, rfl⟩
  have HW : Hid (Below w.heap.size w W) := by rw [hWe]; exact below_alloc _ _
  have HQ : Hid (∀ k, k < 1 → ∃ bk, W.cell? ⟨w.heap.size, k, none⟩ = some (.int .i64 bk)) := fun k hk => by
    obtain rfl : k = 0 := by omega
    have := heap_alloc_new w (.cells #[.int .i64 o] 3)
    rw [← hWe] at this
    exact ⟨o, by simp [World.cell?, this]⟩
  go_enter Tryz.func86, Tryz.ntmps86
  go_wp2_with (go_at_call 153; refine ha.mono ?_; rintro e w1 ⟨rfl, hw⟩; obtain rfl := hw.symm; clear ha)
  rw [← hWe]
  clear hWe
  have hWs := HW.out.size
  go_loopw [8, 9] (fun ov i wr => ∃ (k : Nat) (l : List (Int × Int)), k ≤ 1 ∧ i = .int .i64 k ∧ PlR wr W.heap.size ov l ∧ (0 < k → 1 ≤ l.length) ∧ l.length ≤ 2 * k ∧ Below W.heap.size W wr) (fun _ i _ => 1 - (intOf i).toNat)
  case atStart => exact ⟨0, [], by omega, rfl, World.ownsRow_nil _ _ _ _, by omega, by simp, Below.refl _ _⟩
  case round =>
    obtain ⟨k, l, hk, rfl, hrow, hl1, hl2, hbl⟩ := hrel
    by_cases hlt : k < 1
    · obtain ⟨bk, q0⟩ := HQ.out k hlt
      have hg : w.heap.size < W.heap.size := World.block_lt_of_cell? _ _ q0
      have hw8 := rwith8_any wr W.heap.size _ l hbl.size hrow (by omega) bk
      have HQ0 := Lib.hid q0
      have q0 := (hbl.cell (p := ⟨w.heap.size, k, none⟩) hg).trans q0
      have hlt' : (k : Int) < 1 := by omega
      have HB := Lib.hid hbl; have HW8 := Lib.hid hw8; have HG := Lib.hid hg
      clear hbl hrow hw8 hg
      go_wp2_with (first
        | (go_at_call 110; refine (rbucket_any x bk h0 h1 _).mono ?_; rintro e w1 ⟨⟨bu, rfl⟩, hw⟩; obtain rfl := hw.symm)
        | (go_at_call 154; refine (HW8.out bu).mono ?_; rintro e w2 ⟨v2, l2, rfl, p2, n2, m2, b2⟩; clear q0))
      obtain ⟨a2, cap2, rfl, hm2, -⟩ := p2.read
      unfold maxLen at hm2
      have hbl2 := HB.out.trans b2
      have q0 := (hbl2.cell (p := ⟨w.heap.size, k, none⟩) HG.out).trans HQ0.out
      have x0 := fun st : ExtW w2 => st.cell q0
      have ht : ∀ st : ExtW w2, Calls Tryz.prog 111 #[.int .u64 x] st.val fun e w' => e = .returned (.int .i64 (tag01 x)) ∧ st.val = w' := fun st => (rtag01_any x h0 h1 st.val).mono fun e w' ⟨he, hw⟩ => ⟨he, hw.symm⟩
      have ho : ∀ st : ExtW w2, Calls Tryz.prog 59 #[.int .i64 bu, .int .i64 (tag01 x), .int .i64 bk] st.val fun e w' => e = .returned (.int .i64 (oth01 bu (tag01 x) bk)) ∧ st.val = w' := fun st => (rother01_any bu (tag01 x) bk st.val).mono fun e w' ⟨he, hw⟩ => ⟨he, hw.symm⟩
      have HB2 := Lib.hid hbl2; have HP2 := Lib.hid p2
      clear q0 hbl2 p2 b2
      generalize tag01 x = tg at *
      generalize oth01 bu tg bk = ot at *
      refine wp_region_segs [14] (by kernel_rfl) (by kernel_rfl) (by kernel_rfl) ?_
      simp only [Segs, List.take_succ_cons, List.take_zero, List.drop_succ_cons, List.drop_zero]
      repeat (go_big_quiet_step (first
        | (go_at_call 111; with_reducible refine calls_ext_same (ht _))
        | (go_at_call 59; with_reducible refine calls_ext_same (ho _))))
      refine wpQuiet_nil ?_
      rintro W3 ⟨⟨W4, hW4⟩, rfl⟩
      clear x0 ht ho
      have hsz := HB2.out.size
      refine seg_call rfl (by kernel_rfl) 154 #[.slice a2 l2.length cap2, .agg #[.int .i64 bk, .int .i64 ot]] (by kernel_rfl) ?_
      refine (rwith8_any W3 W.heap.size _ l2 (Nat.le_trans hsz hW4.size) (rown_below HP2.out hW4) (by omega) bk ot).mono ?_
      rintro e w5 ⟨v5, l5, rfl, p5, n5, m5, b5⟩
      refine ⟨_, rfl, ?_⟩
      simp only [List.getElem_toArray, List.getElem_cons_succ, List.getElem_cons_zero]
      go_frame
      have HB5 := Lib.hid ((HB2.out.trans (hW4.mono hsz)).trans b5); have HP5 := Lib.hid p5
      clear hW4 p5 b5
      repeat (go_big_quiet_step (fail))
      refine wpQuiet_nil ?_
      rintro W6 ⟨⟨W7, hW6⟩, rfl⟩
      have hs5 := HB5.out.size
      have HB6 := Lib.hid (HB5.out.trans (hW6.mono hs5)); have HP6 := Lib.hid (rown_below HP5.out hW6)
      clear hW6
      go_wp2
      go_roundw
      case rel => exact ⟨k + 1, l5, by omega, by go_num, HP6.out, fun _ => n5, by omega, HB6.out⟩
      case measure => simp [intOf]; omega
    · obtain rfl : k = 1 := by omega
      have HB := Lib.hid hbl; have HR := Lib.hid hrow
      clear hbl hrow
      go_wp2
      go_ret
      exact ⟨_, l, rfl, own_lower HR.out hWs, hl1 (by decide), by omega, HW.out.trans (HB.out.mono hWs)⟩

set_option maxRecDepth 10000 in
set_option maxHeartbeats 2000000 in
theorem rplaces_two (x v : Int) (h0 : 0 ≤ x) (h1 : x < 18446744073709551616) (v0 : 0 ≤ v) (v1 : v < 18446744073709551616) (hn : asNow v ≠ 0) (w : World) : Calls Tryz.prog 86 #[.int .u64 x, .int .u64 v] w (PlacesPost w) := by
  have ha := ras_any v v0 v1 w
  have hr := as_range v
  have hn1 : 0 < asNow v := by omega
  clear hn hr
  generalize asOld v = o at *
  generalize asNow v = n at *
  obtain ⟨i0, hi0, hz0, hz1, hz2⟩ := info_parts info_int
  have HI := Lib.hid hi0; have HZ0 := Lib.hid hz0; have HZ1 := Lib.hid hz1; have HZ2 := Lib.hid hz2
  clear hi0 hz0 hz1 hz2
  have hrow : ((w.alloc (.cells #[.int .i64 o] 3)).alloc (.cells #[.int .i64 n] 3)).ownsRow w.heap.size 3 1 (.slice (some ⟨w.heap.size, 0, none⟩) 1 1) 1 [.int .i64 o] :=
    ⟨rfl, .inr ⟨w.heap.size, 1, #[.int .i64 o], rfl, Nat.le_refl _, heap_alloc_old (heap_alloc_new w _), Nat.le_refl _, by unfold maxLen; omega, rfl, rfl⟩⟩
  have HRW := Lib.hid hrow
  clear hrow
  go_enter Tryz.func86, Tryz.ntmps86
  go_wp2_with (first
    | (go_at_call 153; refine ha.mono ?_; rintro e w1 ⟨rfl, hw⟩; obtain rfl := hw.symm; clear ha)
    | (at_builtin; refine wpList_append_own _ rfl _ _ 132 rfl w.heap.size 3 i0 (.int .i64 0) 1 8 Tryz.underlying132 HI.out HZ0.out HZ1.out HZ2.out rfl (by decide) _ _ _ rfl HRW.out ⟨_, 0, none⟩ 1 1 [.int .i64 n] rfl rfl (World.news_of_block (cs := #[.int .i64 n]) (t := 3) (fr := (0, 0)) (heap_alloc_at _ _ (by simp))) ?c2 ?c3 ?c4 ?c5 ?_))
  case c2 => simp [Value.oneCell']
  case c3 => unfold maxLen; omega
  case c4 => omega
  case c5 => first | (simp; done) | (simp; omega)
  intro v' W hown hgrow hnil
  have HW : Hid (Below w.heap.size w W) := (((Below.refl _ w).alloc (Nat.le_refl _) (.cells #[.int .i64 o] 3)).alloc (by simp) (.cells #[.int .i64 n] 3)).grown hgrow (by simp; omega) (fun j hj => (HRW.out.lt j hj).1)
  obtain ⟨hlen, ⟨-, hbad⟩ | ⟨g, cap, cur, rfl, hgb, hg, hnc, hcm, hcs, ht⟩⟩ := hown
  · exact absurd hbad (by decide)
  have HQ : Hid (∀ k, k < 2 → ∃ bk, W.cell? ⟨g, k, none⟩ = some (.int .i64 bk)) := fun k hk => by
    have e : cur[k]? = ([.int .i64 o, .int .i64 n] : List Value)[k]? := by
      have : (cur.toList.take 2)[k]? = ([.int .i64 o, .int .i64 n] : List Value)[k]? := by rw [show 2 = (1 + 1) * 1 from rfl, ht]
      rw [List.getElem?_take, if_pos hk] at this
      simpa using this
    rcases (by omega : k = 0 ∨ k = 1) with rfl | rfl
    · exact ⟨o, by simp [World.cell?, hg, e]⟩
    · exact ⟨n, by simp [World.cell?, hg, e]⟩
  clear hgrow hnil hlen hg ht hcs hgb HRW
  unfold maxLen at hcm
  go_wp2_with fail
  have hWs := HW.out.size
  go_loopw [8, 9] (fun ov i wr => ∃ (k : Nat) (l : List (Int × Int)), k ≤ 2 ∧ i = .int .i64 k ∧ PlR wr W.heap.size ov l ∧ (0 < k → 1 ≤ l.length) ∧ l.length ≤ 2 * k ∧ Below W.heap.size W wr) (fun _ i _ => 2 - (intOf i).toNat)
  case atStart => exact ⟨0, [], by omega, rfl, World.ownsRow_nil _ _ _ _, by omega, by simp, Below.refl _ _⟩
  case round =>
    obtain ⟨k, l, hk, rfl, hrow, hl1, hl2, hbl⟩ := hrel
    by_cases hlt : k < 2
    · obtain ⟨bk, q0⟩ := HQ.out k hlt
      have hg : g < W.heap.size := World.block_lt_of_cell? _ _ q0
      have hw8 := rwith8_any wr W.heap.size _ l hbl.size hrow (by omega) bk
      have HQ0 := Lib.hid q0
      have q0 := (hbl.cell (p := ⟨g, k, none⟩) hg).trans q0
      have hlt' : (k : Int) < 2 := by omega
      have HB := Lib.hid hbl; have HW8 := Lib.hid hw8; have HG := Lib.hid hg
      clear hbl hrow hw8 hg
      go_wp2_with (first
        | (go_at_call 110; refine (rbucket_any x bk h0 h1 _).mono ?_; rintro e w1 ⟨⟨bu, rfl⟩, hw⟩; obtain rfl := hw.symm)
        | (go_at_call 154; refine (HW8.out bu).mono ?_; rintro e w2 ⟨v2, l2, rfl, p2, n2, m2, b2⟩; clear q0))
      obtain ⟨a2, cap2, rfl, hm2, -⟩ := p2.read
      unfold maxLen at hm2
      have hbl2 := HB.out.trans b2
      have q0 := (hbl2.cell (p := ⟨g, k, none⟩) HG.out).trans HQ0.out
      have x0 := fun st : ExtW w2 => st.cell q0
      have ht : ∀ st : ExtW w2, Calls Tryz.prog 111 #[.int .u64 x] st.val fun e w' => e = .returned (.int .i64 (tag01 x)) ∧ st.val = w' := fun st => (rtag01_any x h0 h1 st.val).mono fun e w' ⟨he, hw⟩ => ⟨he, hw.symm⟩
      have ho : ∀ st : ExtW w2, Calls Tryz.prog 59 #[.int .i64 bu, .int .i64 (tag01 x), .int .i64 bk] st.val fun e w' => e = .returned (.int .i64 (oth01 bu (tag01 x) bk)) ∧ st.val = w' := fun st => (rother01_any bu (tag01 x) bk st.val).mono fun e w' ⟨he, hw⟩ => ⟨he, hw.symm⟩
      have HB2 := Lib.hid hbl2; have HP2 := Lib.hid p2
      clear q0 hbl2 p2 b2
      generalize tag01 x = tg at *
      generalize oth01 bu tg bk = ot at *
      refine wp_region_segs [14] (by kernel_rfl) (by kernel_rfl) (by kernel_rfl) ?_
      simp only [Segs, List.take_succ_cons, List.take_zero, List.drop_succ_cons, List.drop_zero]
      repeat (go_big_quiet_step (first
        | (go_at_call 111; with_reducible refine calls_ext_same (ht _))
        | (go_at_call 59; with_reducible refine calls_ext_same (ho _))))
      refine wpQuiet_nil ?_
      rintro W3 ⟨⟨W4, hW4⟩, rfl⟩
      clear x0 ht ho
      have hsz := HB2.out.size
      refine seg_call rfl (by kernel_rfl) 154 #[.slice a2 l2.length cap2, .agg #[.int .i64 bk, .int .i64 ot]] (by kernel_rfl) ?_
      refine (rwith8_any W3 W.heap.size _ l2 (Nat.le_trans hsz hW4.size) (rown_below HP2.out hW4) (by omega) bk ot).mono ?_
      rintro e w5 ⟨v5, l5, rfl, p5, n5, m5, b5⟩
      refine ⟨_, rfl, ?_⟩
      simp only [List.getElem_toArray, List.getElem_cons_succ, List.getElem_cons_zero]
      go_frame
      have HB5 := Lib.hid ((HB2.out.trans (hW4.mono hsz)).trans b5); have HP5 := Lib.hid p5
      clear hW4 p5 b5
      repeat (go_big_quiet_step (fail))
      refine wpQuiet_nil ?_
      rintro W6 ⟨⟨W7, hW6⟩, rfl⟩
      have hs5 := HB5.out.size
      have HB6 := Lib.hid (HB5.out.trans (hW6.mono hs5)); have HP6 := Lib.hid (rown_below HP5.out hW6)
      clear hW6
      go_wp2
      go_roundw
      case rel => exact ⟨k + 1, l5, by omega, by go_num, HP6.out, fun _ => n5, by omega, HB6.out⟩
      case measure => simp [intOf]; omega
    · obtain rfl : k = 2 := by omega
      have HB := Lib.hid hbl; have HR := Lib.hid hrow
      clear hbl hrow
      go_wp2
      go_ret
      exact ⟨_, l, rfl, own_lower HR.out hWs, hl1 (by decide), by omega, HW.out.trans (HB.out.mono hWs)⟩

theorem rplaces_any (x v : Int) (h0 : 0 ≤ x) (h1 : x < 18446744073709551616) (v0 : 0 ≤ v) (v1 : v < 18446744073709551616) (w : World) : Calls Tryz.prog 86 #[.int .u64 x, .int .u64 v] w (PlacesPost w) := by
  by_cases hn : asNow v = 0
  · exact rplaces_one x v h0 h1 v0 v1 hn w
  · exact rplaces_two x v h0 h1 v0 v1 hn w
end Go.Proofs.YtmakjfeepmiggaaGreat

/-
  A put ahead of all, in both worlds.
-/
namespace Go.Proofs.YtmakjfeepmiggaaGreat
open Go.RowKit
set_option linter.unusedVariables false

theorem rat_any (base b : Nat) (l : List Itm) (S : Nat → Prop) (r : Int) (w : World) (h : RArena w base b l S) (hl : l.length ≤ 1048576) :
    Calls Tryz.prog 76 #[.pointer (some ⟨b, 0, none⟩), .int .i64 r] w fun e w' => e = .returned (.tuple #[.agg #[.string ((atOf l r).1).key, .string ((atOf l r).1).val, .int .u32 ((atOf l r).1).flags, .int .u64 ((atOf l r).1).id, .int .i64 ((atOf l r).1).dies, .int .i64 ((atOf l r).1).gen], .bool (atOf l r).2]) ∧ Below w.heap.size w w' := by
  unfold atOf
  by_cases h1 : 1 ≤ r ∧ r ≤ l.length
  · rw [if_pos h1]
    have hx : l[(r - 1).toNat]? = some (l.getD (r.toNat - 1) Itm.zero) := by
      rw [show (r - 1).toNat = r.toNat - 1 by omega, List.getD_eq_getElem?_getD, List.getElem?_eq_getElem (by omega)]; rfl
    exact rat_in base b l S r _ w h hl h1.1 hx
  · rw [if_neg h1]
    exact rat_out base b l S r w h h1

abbrev zCs : Array Value := #[.string ⟨#[]⟩, .string ⟨#[]⟩, .int .u32 0, .int .u64 0, .int .i64 0, .int .i64 0]
theorem six_below {w w1 : World} (hb : Below (w.heap.size + 1) (w.alloc (.cells zCs 80)) w1) : Box w1 w.heap.size ⟨⟨#[]⟩, ⟨#[]⟩, 0, 0, 0, 0⟩ :=
  (hb.block w.heap.size (by omega)).trans (heap_alloc_new w _)
set_option maxRecDepth 10000 in
set_option maxHeartbeats 1000000 in
theorem rwitem {w0 w : World} {B : WB} {V : WV} {x : RS} (h : RD w0 w B V x) (hl : V.its.length ≤ 1048576) (r : Int) : Calls Tryz.prog 129 #[.pointer (some ⟨B.wb, 0, none⟩), .int .i64 r] w fun e w' => e = .returned (.agg #[.string ((atOf V.its r).1).key, .string ((atOf V.its r).1).val, .int .u32 ((atOf V.its r).1).flags, .int .u64 ((atOf V.its r).1).id, .int .i64 ((atOf V.its r).1).dies, .int .i64 ((atOf V.its r).1).gen]) ∧ Below w.heap.size w w' := by
  obtain ⟨w2, hw2⟩ : ∃ w2, w2 = w.alloc (.cells zCs 80) := ⟨_, rfl⟩
  have hB0 : Below w.heap.size w w2 := by rw [hw2]; exact below_alloc' _ _
  have h1 := h.keep hB0
  obtain ⟨S, hA⟩ := h1.ar
  have hat := rat_any _ _ _ _ r _ hA hl
  have c1 : w2.cell? ⟨B.wb, 1, none⟩ = some (.pointer (some ⟨B.ib, 0, none⟩)) := (h1.cell 1).trans (val_at B V h1.tkl).2.1
  generalize (atOf V.its r).1 = y at *
  generalize (atOf V.its r).2 = bo at *
  have hs2 : w2.heap.size = w.heap.size + 1 := by rw [hw2]; simp
  have hbx : ∀ w1, Below w2.heap.size w2 w1 → Box w1 w.heap.size ⟨⟨#[]⟩, ⟨#[]⟩, 0, 0, 0, 0⟩ := fun w1 hb => six_below (by rw [← hw2, ← hs2]; exact hb)
  have c1' : w.cell? ⟨B.wb, 1, none⟩ = some (.pointer (some ⟨B.ib, 0, none⟩)) := (h.cell 1).trans (val_at B V h.tkl).2.1
  have hwb : B.wb < w.heap.size := (Array.getElem?_eq_some_iff.1 h.blk).1
  rw [hw2] at hat hbx hs2 hB0
  have HA := Lib.hid hat; have HB0 := Lib.hid hB0; have HBX := Lib.hid hbx; have HS2 := Lib.hid hs2
  clear h h1 hA hat hB0 hbx hs2 c1 hw2
  go_enter Tryz.func129, Tryz.ntmps129
  go_upto_region 2 with (go_at_call 76; refine HA.out.mono ?_; rintro e w1 ⟨rfl, hb⟩; have hz := HBX.out _ hb; have HB := Lib.hid hb; clear hb c1')
  have hsz : w.heap.size < w1.heap.size := hz.lt
  have h6 : Below w1.heap.size w1 (w1.alloc (.cells y.cells.toArray 80)) := below_alloc' _ _
  have hb6 : Box (w1.alloc (.cells y.cells.toArray 80)) w1.heap.size y := Box.new w1 y
  have hz6 := hz.below h6
  have hB6 : Below w.heap.size w (w1.alloc (.cells y.cells.toArray 80)) := (HB0.out.trans (HB.out.mono HB0.out.size)).trans (h6.mono (Nat.le_of_lt hsz))
  clear hz h6
  change Code.wp _ _ _ _ (w1.alloc (.cells y.cells.toArray 80))
  generalize w1.alloc (.cells y.cells.toArray 80) = W6 at *
  obtain ⟨b0, b1, b2, b3, b4, b5⟩ := hb6.cells
  obtain ⟨z0, z1, z2, z3, z4, z5⟩ := hz6.cells
  have zf := hz6.frozen
  have HZ := Lib.hid (hz6.store y)
  have HB6 := Lib.hid hB6
  clear hz6 hb6 hB6
  go_wp2
  have hk : Below w.heap.size w (store6 W6 w.heap.size 0 y) := keeps_below (store6_keeps W6 w.heap.size 0 y) HB6.out HB6.out.size fun k e => by omega
  change bodyPost _ _ _ _ _ (store6 W6 w.heap.size 0 y)
  obtain ⟨r0, r1, r2, r3, r4, r5⟩ := HZ.out.cells
  refine bodyPost_ret (v := .agg #[.string (y).key, .string (y).val, .int .u32 (y).flags, .int .u64 (y).id, .int .i64 (y).dies, .int .i64 (y).gen]) (by simp [results, Tryz.results129, go_sem, r0, r1, r2, r3, r4, r5]) rfl ⟨rfl, hk⟩

theorem field_key (y : Itm) (W : World) : (Instr.field 80 (.agg #[.string (y).key, .string (y).val, .int .u32 (y).flags, .int .u64 (y).id, .int .i64 (y).dies, .int .i64 (y).gen]) 0).run Tryz.prog W = .ok (.string y.key) W := by kernel_rfl
theorem wf_bd {v : Int} (h : (Lit.int .u64 v).wf = true) : 0 ≤ v ∧ v < 18446744073709551616 := by
  have hmin : IntKind.u64.min = 0 := rfl
  have hmax : IntKind.u64.max = 18446744073709551615 := rfl
  simp only [Lit.wf, Bool.and_eq_true, decide_eq_true_eq] at h; omega
theorem bd_wf {v : Int} (h : 0 ≤ v ∧ v < 18446744073709551616) : (Lit.int .u64 v).wf = true := by
  have hmin : IntKind.u64.min = 0 := rfl
  have hmax : IntKind.u64.max = 18446744073709551615 := rfl
  simp only [Lit.wf, Bool.and_eq_true, decide_eq_true_eq]; omega
theorem i64_small (v : Int) (h : 0 ≤ v ∧ v < 1000000) : (Lit.int .i64 v).wf = true := by
  have hmin : IntKind.i64.min = -9223372036854775808 := rfl
  have hmax : IntKind.i64.max = 9223372036854775807 := rfl
  simp only [Lit.wf, Bool.and_eq_true, decide_eq_true_eq]; omega
theorem rlook_wf' {w0 w : World} {B : WB} {V : WV} {x : RS} (h : RD w0 w B V x) (a : Int) : (Lit.int .u64 (rlook x.l a)).wf = true := by obtain ⟨lv, hr⟩ := h.ref; exact rlook_wf hr a
theorem withOf_wf (x s t : Int) (h0 : 0 ≤ x) (h1 : x < 18446744073709551616) : (Lit.int .u64 (TagPure.withOf x s t)).wf = true := by
  unfold TagPure.withOf
  split
  · rename_i h
    exact bd_wf (put_u64 x t s.toNat h0 h1 (by omega) h.2.1 h.2.2)
  · exact bd_wf ⟨h0, h1⟩
def PutPost (w0 w : World) (B R : WB) (V : WV) (m : Nat) (e : Ending) (w' : World) : Prop := e = .returned (.tuple #[]) ∧ ∃ s' x', Pr w0 w' B R V s' x' ∧ Far s' x' (m + 2) ∧ Fr wrTy true w w'
theorem atOf_key (l : List Itm) (r : Int) (h : ∀ y ∈ l, y.key.size ≤ 1000) : (atOf l r).1.key.size ≤ 1000 := by
  unfold atOf
  split
  · rename_i h1
    have : r.toNat - 1 < l.length := by omega
    simp only [List.getD_eq_getElem?_getD, List.getElem?_eq_getElem this, Option.getD_some]
    exact h _ (List.getElem_mem _)
  · exact Nat.zero_le _
set_option maxRecDepth 10000 in
set_option maxHeartbeats 4000000 in
theorem pput_any {w0 w : World} {B R : WB} {V : WV} {s : CS} {x : RS} (h : Pr w0 w B R V s x) (m : Nat) (hf : Far s x m) (hm : m ≤ 80000) (hits : ∀ y ∈ V.its, y.key.size ≤ 1000) (hl : V.its.length ≤ 1048576) (many : Nat) (hmany : 1 ≤ many ∧ many ≤ 100) (i p sl : Int)
    (hi : 0 ≤ i ∧ i < 256) (hp : 0 ≤ p ∧ p < 256) (hsl : 0 ≤ sl ∧ sl < 256) :
    Calls Tryz.prog 48 #[.agg #[.pointer (some ⟨B.wb, 0, none⟩), .pointer (some ⟨R.wb, 0, none⟩)], .agg #[.int .u8 i, .int .u8 p, .int .u8 sl], .int .i64 many] w (PutPost w0 w B R V m) := by
  obtain ⟨w1, hw1⟩ : ∃ w1, w1 = (w.alloc (.cells #[.pointer (some ⟨B.wb, 0, none⟩), .pointer (some ⟨R.wb, 0, none⟩)] 34)).alloc (.cells #[.int .u8 i, .int .u8 p, .int .u8 sl] 131) := ⟨_, rfl⟩
  have hB1 : Below w.heap.size w w1 := by rw [hw1]; exact ((Below.refl _ _).alloc (Nat.le_refl _) _).alloc (by simp) _
  have hq1 : w1.heap[w.heap.size]? = some (.cells #[.pointer (some ⟨B.wb, 0, none⟩), .pointer (some ⟨R.wb, 0, none⟩)] 34 (0, 0)) := by rw [hw1]; exact heap_alloc_old (heap_alloc_new w _)
  have hq2 : w1.heap[w.heap.size + 1]? = some (.cells #[.int .u8 i, .int .u8 p, .int .u8 sl] 131 (0, 0)) := by rw [hw1]; exact heap_alloc_at _ _ (by simp)
  have h1 := h.keep hB1
  obtain ⟨ref, hrf⟩ : ∃ ref, ref = 1 + i % (many : Int) := ⟨_, rfl⟩
  have hmod : 0 ≤ i % (many : Int) ∧ i % (many : Int) < many := ⟨Int.emod_nonneg _ (by omega), Int.emod_lt_of_pos _ (by omega)⟩
  have hrb : 1 ≤ ref ∧ ref ≤ 100 := by omega
  have hke := atOf_key V.its ref hits
  have hit := rwitem h1.rd hl ref
  generalize (atOf V.its ref).1 = y at *
  have hv2 := congrFun h.al.val 2
  have hwf2 := h1.ws.own.wf 2
  have hx2 : 0 ≤ rlook x.l 2 ∧ rlook x.l 2 < 18446744073709551616 := by
    rw [hv2] at hwf2
    have hmin : IntKind.u64.min = 0 := rfl
    have hmax : IntKind.u64.max = 18446744073709551615 := rfl
    simp only [Lit.wf, Bool.and_eq_true, decide_eq_true_eq] at hwf2; omega
  have a0 := hcell hq1 1
  have a1 := hcell hq2 0
  have hfk := field_key y
  have H := Lib.hid h1; have HQ1 := Lib.hid hq1; have HQ2 := Lib.hid hq2; have HB1 := Lib.hid hB1; have HF := Lib.hid hf; have HIT := Lib.hid hit; have HX2 := Lib.hid hx2
  clear h h1 hf hq1 hq2 hB1 hits hl hit hv2 hwf2 hx2
  go_enter Tryz.func48, Tryz.ntmps48
  go_upto_region 1 with (fail)
  rw [← hw1]
  clear hw1
  go_upto_region 2 with (fail)
  rw [← hrf]
  clear hrf hmod
  go_upto_region 4 with (first
    | (go_at_call 129; refine HIT.out.mono ?_; rintro e w2 ⟨rfl, b2⟩; have B2 := Lib.hid b2; have a2 := hcell ((b2.block _ (Array.getElem?_eq_some_iff.1 HQ1.out).1).trans HQ1.out) 1; clear a0 a1 b2)
    | (go_at_call 87; refine (rhash_any _ (by omega) _).mono ?_; rintro e w3 ⟨⟨hh, rfl, hb⟩, hw⟩; obtain rfl := hw.symm)
    | (go_at_call 130; refine (rwpeek (H.out.rd.keep B2.out) 2).mono ?_; rintro e w3 ⟨rfl, hw⟩; obtain rfl := hw.symm)
    | (go_at_call 86; refine (rplaces_any hh _ hb.1 hb.2 HX2.out.1 HX2.out.2 _).mono ?_; rintro e w4 ⟨pv, l, rfl, hpl, hl1, hl4, b4⟩; clear a2))
  obtain ⟨pa, pcap, rfl, hlm, hrd⟩ := hpl.read
  obtain ⟨g, rfl, hgb, hrow⟩ := hrd (by omega)
  obtain ⟨k, hk⟩ : ∃ k : Nat, k = (p % (l.length : Int)).toNat := ⟨_, rfl⟩
  have hpm := Int.emod_nonneg p (b := (l.length : Int)) (by omega)
  have hpm2 := Int.emod_lt_of_pos p (b := (l.length : Int)) (by omega)
  have hkl : k < l.length := by omega
  have hke1 : p % (l.length : Int) = k := by omega
  have hke2 : p.tmod (l.length : Int) = k := by rw [Int.tmod_eq_emod_of_nonneg hp.1]; exact hke1
  obtain ⟨q0, q1⟩ := hrow k hkl
  have hgw := World.block_lt_of_cell? _ _ q0
  generalize l[k] = pl at *
  obtain ⟨pb, pu⟩ := pl
  simp only at q0 q1
  have hb24 : Below w1.heap.size w1 w4 := B2.out.trans (b4.mono B2.out.size)
  have hq14 := (hb24.block _ (Array.getElem?_eq_some_iff.1 HQ1.out).1).trans HQ1.out
  have hq24 := (hb24.block _ (Array.getElem?_eq_some_iff.1 HQ2.out).1).trans HQ2.out
  have c0 := hcell hq24 1
  have c1 := hcell hq24 2
  have hn1 : w.heap.size + 1 < w4.heap.size := (Array.getElem?_eq_some_iff.1 hq24).1
  have hslm : 0 ≤ sl % 4 ∧ sl % 4 < 4 := by omega
  have hslt : sl.tmod 4 = sl % 4 := Int.tmod_eq_emod_of_nonneg hsl.1
  have hkk : (k : Int) < l.length := by omega
  have hk00 : (0 : Int) ≤ (k : Int) := by omega
  have hkw : IntKind.i64.wrap (k : Int) = k := IntWalk.i64_in _ (by omega)
  have hkp : IntKind.i64.wrap p = p := IntWalk.i64_in _ (by omega)
  have hkt : (k : Int).toNat = k := by omega
  have hks : IntKind.i64.wrap (sl % 4) = sl % 4 := IntWalk.i64_in _ (by omega)
  have hkt2 : IntKind.i64.wrap (p.tmod (l.length : Int)) = k := by rw [hke2]; exact hkw
  have hlz : ((l.length : Int) == 0) = false := beq_eq_false_iff_ne.2 (by omega)
  have hlz2 : l.length ≠ 0 := by omega
  have hlz3 : ¬ ((l.length : Int) = 0) := by omega
  have H4 := Lib.hid (H.out.keep hb24); have HQ14 := Lib.hid hq14; have HB4 : Hid (Below w.heap.size w w4) := HB1.out.trans (hb24.mono HB1.out.size)
  have hh0 : w4.drew.cell? ⟨w.heap.size + 1, 1, none⟩ = some (.int .u8 p) ∧ w4.drew.cell? ⟨w.heap.size + 1, 2, none⟩ = some (.int .u8 sl) ∧ w4.drew.cell? ⟨g, k * 2, none⟩ = some (.int .i64 pb) ∧ w4.drew.cell? ⟨g, k * 2 + 1, none⟩ = some (.int .i64 pu) := ⟨c0, c1, q0, q1⟩
  have hfb : ∀ W, Below w4.heap.size w4 W → W.cell? ⟨w.heap.size + 1, 1, none⟩ = some (.int .u8 p) ∧ W.cell? ⟨w.heap.size + 1, 2, none⟩ = some (.int .u8 sl) ∧ W.cell? ⟨g, k * 2, none⟩ = some (.int .i64 pb) ∧ W.cell? ⟨g, k * 2 + 1, none⟩ = some (.int .i64 pu) := fun W hb =>
    ⟨(hb.cell (World.block_lt_of_cell? _ _ c0)).trans c0, (hb.cell (World.block_lt_of_cell? _ _ c1)).trans c1, (hb.cell (World.block_lt_of_cell? _ _ q0)).trans q0, (hb.cell (World.block_lt_of_cell? _ _ q1)).trans q1⟩
  unfold maxLen at hlm
  clear hrd hrow hpl hb24 hq14 hq24 c0 c1 q0 q1 b4 hk hpm hpm2 H HQ1 HQ2 HB1 HIT HX2 hfk
  go_region_held3 (fun W => W.cell? ⟨w.heap.size + 1, 1, none⟩ = some (.int .u8 p) ∧ W.cell? ⟨w.heap.size + 1, 2, none⟩ = some (.int .u8 sl) ∧ W.cell? ⟨g, k * 2, none⟩ = some (.int .i64 pb) ∧ W.cell? ⟨g, k * 2 + 1, none⟩ = some (.int .i64 pu))
    (first | exact hh0 | exact hfb _ (by repeat (first | exact Below.refl _ _ | refine Below.drew ?_ | refine Below.setCell ?_ (by simp) _ | refine Below.alloc ?_ (by simp) _)) | go_keep) (fail)
  have hq5 : ((w4.alloc (.cells #[.int .i64 pb, .int .i64 pu, .int .i64 (sl % 4)] 71)).drew).heap[w4.heap.size]? = some (.cells #[.int .i64 pb, .int .i64 pu, .int .i64 (sl % 4)] 71 (0, 0)) := heap_alloc_new w4 _
  have hb5 : Below w4.heap.size w4 ((w4.alloc (.cells #[.int .i64 pb, .int .i64 pu, .int .i64 (sl % 4)] 71)).drew) := (below_alloc' w4 _).drew
  clear hh0 hfb hgw
  generalize (w4.alloc (.cells #[.int .i64 pb, .int .i64 pu, .int .i64 (sl % 4)] 71)).drew = W5 at *
  have H5 := Lib.hid (H4.out.keep hb5); have HQ15 := Lib.hid ((hb5.block _ (Array.getElem?_eq_some_iff.1 HQ14.out).1).trans HQ14.out); have HQ5 := Lib.hid hq5
  have HB5 : Hid (Below w.heap.size w W5) := HB4.out.trans (hb5.mono HB4.out.size)
  have c0 := hcell hq5 0
  have c1 := hcell hq5 1
  clear hq5 hb5 H4 HQ14 HB4 B2 hlz hlz2 hlz3 hkt2 hke2 hke1 hkw hkt hkk
  go_upto_region 6 with (go_at_call 56; refine (rtags_any pb pu _).mono ?_; rintro e w6 ⟨rfl, b6⟩; have B6 := Lib.hid b6; clear b6 c0 c1)
  have haw := tagsA_wf pb pu
  have h6 := H5.out.keep B6.out
  have hq16 := (B6.out.block _ (Array.getElem?_eq_some_iff.1 HQ15.out).1).trans HQ15.out
  have hq6 := (B6.out.block _ (Array.getElem?_eq_some_iff.1 HQ5.out).1).trans HQ5.out
  obtain ⟨a, hae⟩ : ∃ a, a = tagsA pb pu := ⟨_, rfl⟩
  rw [← hae] at haw
  simp only [← hae]
  have hva := wf_bd (rlook_wf' h6.rd a)
  have hpk : ∀ st : ExtW w6, Calls Tryz.prog 130 #[.pointer (some ⟨R.wb, 0, none⟩), .int .u64 a] st.val fun e w' => e = .returned (.int .u64 (rlook x.l a)) ∧ st.val = w' := fun st => (rwpeek (h6.rd.keep st.below) a).mono fun e w' ⟨he, hw⟩ => ⟨he, hw.symm⟩
  have htg : ∀ st : ExtW w6, Calls Tryz.prog 111 #[.int .u64 hh] st.val fun e w' => e = .returned (.int .i64 (tag01 hh)) ∧ st.val = w' := fun st => (rtag01_any hh hb.1 hb.2 st.val).mono fun e w' ⟨he, hw⟩ => ⟨he, hw.symm⟩
  have hwt := fun st : ExtW w6 => rwith_any (rlook x.l a) (sl % 4) (tag01 hh) st.val hva.1 hva.2
  have hnw := withOf_wf (rlook x.l a) (sl % 4) (tag01 hh) hva.1 hva.2
  generalize tag01 hh = tg at *
  generalize rlook x.l a = va at *
  generalize TagPure.withOf va (sl % 4) tg = nv at *
  have x0 := fun st : ExtW w6 => st.cell (hcell hq16 0)
  have x1 := fun st : ExtW w6 => st.cell (hcell hq16 1)
  have x2 := fun st : ExtW w6 => st.cell (hcell hq6 2)
  have hst : ∀ W, Below w6.heap.size w6 W → Calls Tryz.prog 13 #[.agg #[.pointer (some ⟨B.wb, 0, none⟩), .pointer (some ⟨R.wb, 0, none⟩)], .agg #[.int .u64 a, .int .u64 nv]] W fun e w' => e = .returned (.tuple #[]) ∧ Pr w0 w' B R V (s.acc 2 a nv) (x.acc 2 a nv) ∧ Fr wrTy true W w' := fun W hW => pstore_any (h6.keep hW) m HF.out (by omega) a nv haw hnw
  have HST := Lib.hid hst; have HQ16 := Lib.hid hq16; have HQ6 := Lib.hid hq6; have HAL := Lib.hid h6.al
  have HB6 : Hid (Below w.heap.size w w6) := HB5.out.trans (B6.out.mono HB5.out.size)
  clear h6 hq16 hq6 hst H5 HQ15 HQ5 HB5 B6 hva haw hnw hae
  refine wp_region_segs [12] (by kernel_rfl) (by kernel_rfl) (by kernel_rfl) ?_
  simp only [Segs, List.take_succ_cons, List.take_zero, List.drop_succ_cons, List.drop_zero]
  repeat (go_big_quiet_step (first
    | (go_at_call 130; with_reducible refine calls_ext_same (hpk _))
    | (go_at_call 111; with_reducible refine calls_ext_same (htg _))
    | (go_at_call 131; with_reducible refine calls_ext_same (hwt _))))
  refine wpQuiet_nil ?_
  rintro W7 ⟨⟨W8, hW8⟩, rfl⟩
  clear x0 x1 x2 hpk htg hwt
  refine seg_call rfl (by kernel_rfl) 13 #[.agg #[.pointer (some ⟨B.wb, 0, none⟩), .pointer (some ⟨R.wb, 0, none⟩)], .agg #[.int .u64 a, .int .u64 nv]] (by kernel_rfl) ?_
  refine (HST.out _ hW8).mono ?_
  rintro e w9 ⟨rfl, h9, f9⟩
  refine ⟨_, rfl, ?_⟩
  simp only [List.getElem_toArray, List.getElem_cons_succ, List.getElem_cons_zero]
  go_frame
  have hq19 := f9.cells _ _ _ _ ((hW8.block _ (Array.getElem?_eq_some_iff.1 HQ16.out).1).trans HQ16.out) rfl
  have hq9 := f9.cells _ _ _ _ ((hW8.block _ (Array.getElem?_eq_some_iff.1 HQ6.out).1).trans HQ6.out) rfl
  have F9 : Hid (Fr wrTy true w w9) := ((below_fr HB6.out _ _).trans (below_fr hW8 _ _)).trans f9
  have H9 := Lib.hid h9; have HQ19 := Lib.hid hq19; have HQ9 := Lib.hid hq9
  clear h9 f9 hW8 hq19 hq9 HQ16 HQ6 HB6 HST
  refine wpQuiet_nil ?_
  rintro W10 ⟨⟨W11, hW10⟩, rfl⟩
  have hq1 := (hW10.block _ (Array.getElem?_eq_some_iff.1 HQ19.out).1).trans HQ19.out
  have hq2 := (hW10.block _ (Array.getElem?_eq_some_iff.1 HQ9.out).1).trans HQ9.out
  have h10 := H9.out.keep hW10
  have F10 : Hid (Fr wrTy true w W10) := F9.out.trans (below_fr hW10 _ _)
  have hiw := itemA_wf pb pu (sl % 4)
  have hrw : IntKind.u64.wrap ref = ref := by rw [IntKind.wrap_u64]; omega
  have hrwf := u64_small ref (by omega)
  have hitm := fun st : ExtW W10 => ritem_any pb pu (sl % 4) (i64_small _ (by omega)) st.val
  generalize itemA pb pu (sl % 4) = ia at *
  have x0 := fun st : ExtW W10 => st.cell (hcell hq1 0)
  have x1 := fun st : ExtW W10 => st.cell (hcell hq1 1)
  have x2 := fun st : ExtW W10 => st.cell (hcell hq2 0)
  have x3 := fun st : ExtW W10 => st.cell (hcell hq2 1)
  have x4 := fun st : ExtW W10 => st.cell (hcell hq2 2)
  have hst : ∀ W, Below W10.heap.size W10 W → Calls Tryz.prog 13 #[.agg #[.pointer (some ⟨B.wb, 0, none⟩), .pointer (some ⟨R.wb, 0, none⟩)], .agg #[.int .u64 ia, .int .u64 ref]] W fun e w' => e = .returned (.tuple #[]) ∧ Pr w0 w' B R V ((s.acc 2 a nv).acc 2 ia ref) ((x.acc 2 a nv).acc 2 ia ref) ∧ Fr wrTy true W w' := fun W hW => pstore_any (h10.keep hW) (m + 1) (HF.out.acc HAL.out 2 a nv) (by omega) ia ref hiw hrwf
  have HST := Lib.hid hst; have HAL2 := Lib.hid h10.al
  clear h10 hq1 hq2 hst hiw hrwf hW10 H9 F9 HQ19 HQ9
  go_upto_region 7 with (fail)
  refine wp_region_segs [6] (by kernel_rfl) (by kernel_rfl) (by kernel_rfl) ?_
  simp only [Segs, List.take_succ_cons, List.take_zero, List.drop_succ_cons, List.drop_zero]
  repeat (go_big_quiet_step ((go_at_call 89; with_reducible refine calls_ext (hitm _))))
  refine wpQuiet_nil ?_
  rintro W12 ⟨⟨W13, hW12⟩, rfl⟩
  clear x0 x1 x2 x3 x4 hitm
  refine seg_call rfl (by kernel_rfl) 13 #[.agg #[.pointer (some ⟨B.wb, 0, none⟩), .pointer (some ⟨R.wb, 0, none⟩)], .agg #[.int .u64 ia, .int .u64 ref]] (by kernel_rfl) ?_
  refine (HST.out _ hW12).mono ?_
  rintro e w14 ⟨rfl, h14, f14⟩
  refine ⟨_, rfl, ?_⟩
  refine wpQuiet_nil ?_
  rintro W15 ⟨⟨W16, hW15⟩, rfl⟩
  have HFIN : Hid (∃ s' x', Pr w0 W15 B R V s' x' ∧ Far s' x' (m + 2) ∧ Fr wrTy true w W15) := ⟨_, _, h14.keep hW15, (HF.out.acc HAL.out 2 a nv).acc HAL2.out 2 ia ref, ((F10.out.trans (below_fr hW12 _ _)).trans f14).trans (below_fr hW15 _ _)⟩
  clear h14 f14 hW12 hW15 HST
  go_wp2
  go_end0
  exact ⟨rfl, HFIN.out⟩
end Go.Proofs.YtmakjfeepmiggaaGreat

/-
  A pair of worlds: what its makers share; the pair with nothing ahead.
-/
namespace Go.Proofs.YtmakjfeepmiggaaGreat
open Go.RowKit
set_option linter.unusedVariables false

/-- Triples of bytes that may be read. -/
structure Tri (w : World) (a : Option Addr) (cap : Nat) (l : List (Int × Int × Int)) : Prop where
  le : l.length ≤ cap
  most : cap ≤ maxLen
  bd : ∀ p ∈ l, (0 ≤ p.1 ∧ p.1 < 256) ∧ (0 ≤ p.2.1 ∧ p.2.1 < 256) ∧ (0 ≤ p.2.2 ∧ p.2.2 < 256)
  cell : l = [] ∨ ∃ b off, a = some ⟨b, off, none⟩ ∧ ∀ i, (hi : i < l.length) → w.cell? ⟨b, off + i * 3, none⟩ = some (.int .u8 (l[i]).1) ∧ w.cell? ⟨b, off + i * 3 + 1, none⟩ = some (.int .u8 (l[i]).2.1) ∧ w.cell? ⟨b, off + i * 3 + 2, none⟩ = some (.int .u8 (l[i]).2.2)
theorem Tri.at {w : World} {a : Option Addr} {cap : Nat} {l : List (Int × Int × Int)} (h : Tri w a cap l) (i : Nat) (hi : i < l.length) : ∃ b off x y z, a = some ⟨b, off, none⟩ ∧ ((0 ≤ x ∧ x < 256) ∧ (0 ≤ y ∧ y < 256) ∧ (0 ≤ z ∧ z < 256)) ∧
    w.cell? ⟨b, off + i * 3, none⟩ = some (.int .u8 x) ∧ w.cell? ⟨b, off + i * 3 + 1, none⟩ = some (.int .u8 y) ∧ w.cell? ⟨b, off + i * 3 + 2, none⟩ = some (.int .u8 z) := by
  rcases h.cell with rfl | ⟨b, off, rfl, h5⟩
  · simp at hi
  · exact ⟨b, off, _, _, _, rfl, h.bd _ (List.getElem_mem hi), h5 i hi⟩
theorem Tri.below {w w' : World} {a : Option Addr} {cap : Nat} {l : List (Int × Int × Int)} (h : Tri w a cap l) (hb : Below w.heap.size w w') : Tri w' a cap l := by
  refine ⟨h.le, h.most, h.bd, h.cell.imp id fun ⟨b, off, e, h5⟩ => ⟨b, off, e, fun i hi => ?_⟩⟩
  obtain ⟨h6, h7, h8⟩ := h5 i hi
  exact ⟨(hb.cell (World.block_lt_of_cell? _ _ h6)).trans h6, (hb.cell (World.block_lt_of_cell? _ _ h7)).trans h7, (hb.cell (World.block_lt_of_cell? _ _ h8)).trans h8⟩
/-- What a First holds. -/
structure Fst where
  c : Conf
  gr : Bool
  ia : Option Addr
  ic : Nat
  its : List Itm
  pa : Option Addr
  pc : Nat
  puts : List (Int × Int × Int)
  sa : Option Addr
  sc : Nat
  sts : List (Int × Int)
  ticks : Int
def Fst.cells (f : Fst) : Array Value := #[.int .i64 f.c.bits, .int .i64 f.c.budget, .int .i64 f.c.tries, .int .i64 f.c.quantum, .int .i64 f.c.way, .bool f.gr, .slice f.ia f.its.length f.ic, .slice f.pa f.puts.length f.pc, .slice f.sa f.sts.length f.sc, .int .i64 f.ticks]
def Fst.conf (f : Fst) : Conf := if f.c.ok = true then f.c else conf10
/-- It may be read, and is not great. -/
structure FstIn (w : World) (f : Fst) : Prop where
  its : Itms w (.slice f.ia f.its.length f.ic) f.its
  puts : Tri w f.pa f.pc f.puts
  sts : RWds w f.sa f.sc f.sts
  ni : f.its.length ≤ 40
  np : f.puts.length ≤ 60
  ns : f.sts.length ≤ 60
  key : ∀ y ∈ f.its, y.key.size ≤ 1000
theorem FstIn.below {w w' : World} {f : Fst} (h : FstIn w f) (hb : Below w.heap.size w w') : FstIn w' f :=
  ⟨h.its.below hb (Nat.le_refl _), h.puts.below hb, h.sts.below hb, h.ni, h.np, h.ns, h.key⟩

def v0 (c : Conf) : WV := ⟨c, [], [], List.replicate 64 0, -1, []⟩
theorem tk_eq : tkV (List.replicate 64 0) = tk0 := by simp [tkV, tk0]
theorem rd_of {w w1 w2 : World} {rb cr rib rnb : Nat} {c : Conf} {x : RS} (h : RWld w1 w2 rb cr rib rnb c x) (hB : Below w.heap.size w w1) (hb : Below w1.heap.size w1 w2) : RD w w2 ⟨rb, cr, rib, rnb⟩ (v0 c) x := by
  obtain ⟨lv, hr⟩ := h.ref
  have hs := hB.size
  refine ⟨hB.trans (hb.mono hs), ⟨lv, hr.base hs⟩, ?_, Nat.le_trans hs h.lo, ⟨_, none, 0, ⟨h.items, World.ownsRow_nil _ _ _ _, Nat.le_trans hs h.ilo, by simp [Value.ownBlock]⟩, rfl⟩, NL.nil _ _ h.notes (Nat.le_trans hs h.nlo), by simp [v0]⟩
  have := h.blk
  unfold WB.val v0
  simp only [tk_eq]
  exact this
theorem ws_of {w w1 w2 : World} {wb cb ib nb : Nat} {c : Conf} {s : CS} (hB : Below w.heap.size w w1) (h1 : w2.heap[wb]? = some (.cells (worldV cb ib nb c tk0 (-1)).toArray 117 (0, 0))) (h2 : w1.heap.size ≤ wb) (h3 : Own w1 w2 cb s)
    (h4 : w2.heap[ib]? = some (.cells #[.slice none 0 0, .int .i64 0] 242 (0, 0))) (h5 : w1.heap.size ≤ ib) (h6 : w2.heap[nb]? = some (.cells #[.slice none 0 0] 286 (0, 0))) (h7 : w1.heap.size ≤ nb) : WS w w2 ⟨wb, cb, ib, nb⟩ (v0 c) s := by
  have hs := hB.size
  have ha : ArenaAt w2 w.heap.size ib none 0 [] [] := ⟨by simpa using h4, World.ownsRow_nil _ _ _ _, Nat.le_trans hs h5, by simp, by simp, by simp, by simp, by simp, by simp, by simp [Value.ownBlock], by simp⟩
  refine ⟨h3.base hB, ?_, Nat.le_trans hs h2, ⟨_, none, 0, [], ha, rfl⟩, NL.nil _ _ h6 (Nat.le_trans hs h7), by simp [v0], FM.nil _ _⟩
  unfold WB.val v0
  simp only [tk_eq]
  exact h1
theorem tword_bits {c : Conf} (hc : c.ok = true) : tword c.bits 0 = c.bits ∧ 1 ≤ c.bits ∧ c.bits ≤ 12 := by
  simp only [Conf.ok, Bool.and_eq_true, decide_eq_true_eq] at hc
  unfold tword; omega
theorem init_one (v : Int) (hv : v ≠ 0) : Alike (CS.init [(2, v)]) ⟨rfold [(2, v)], 0, 0, 0, 0, 0⟩ := by
  have e : rfold [(2, v)] = [(2, v)] := by
    show rput [] 2 v = _
    rw [rput_ins (l := []) List.Pairwise.nil]; simp [rins, hv]
  rw [e]
  refine ⟨?_, List.pairwise_singleton _ _, fun p hp => by simp only [List.mem_singleton] at hp; subst hp; exact hv, rfl, rfl, rfl, rfl, rfl⟩
  funext a
  show upd (fun _ => 0) 2 v a = _
  unfold upd
  by_cases h : a = 2
  · simp [h, rlook]
  · simp [h, rlook, Ne.symm h]
theorem init_far1 (v : Int) : Far (CS.init [(2, v)]) ⟨rfold [(2, v)], 0, 0, 0, 0, 0⟩ 1 := by
  have := rfold_len [(2, v)]
  exact ⟨by show (1 : Nat) ≤ 1; omega, by show (0 : Nat) ≤ 1; omega, by simpa using this⟩

/-- The four blocks that Begin makes. -/
structure BxF (f : Fst) (c : Conf) (q q4 : Nat) (vw vr : Value) (W : World) : Prop where
  hF : W.heap[q]? = some (.cells f.cells 28 (0, 0))
  h2 : W.heap[q + 1]? = some (.cells #[.pointer none, .pointer none] 34 (0, 0))
  h3 : W.heap[q + 2]? = some (.cells #[.int .i64 c.bits, .int .i64 c.budget, .int .i64 c.tries, .int .i64 c.quantum, .int .i64 c.way] 23 (0, 0))
  h4 : W.heap[q4]? = some (.cells #[vw, vr] 34 (0, 0))
theorem BxF.fr {f : Fst} {c : Conf} {q q4 : Nat} {vw vr : Value} {W W' : World} {K : TypeId → Bool} {mp : Bool} (h : BxF f c q q4 vw vr W) (hf : Fr K mp W W') (h1 : K 28 = false) (h2 : K 34 = false) (h3 : K 23 = false) : BxF f c q q4 vw vr W' :=
  ⟨hf.cells _ _ _ _ h.hF h1, hf.cells _ _ _ _ h.h2 h2, hf.cells _ _ _ _ h.h3 h3, hf.cells _ _ _ _ h.h4 h2⟩
theorem BxF.below {f : Fst} {c : Conf} {q q4 : Nat} {vw vr : Value} {W W' : World} (h : BxF f c q q4 vw vr W) (hb : Below W.heap.size W W') : BxF f c q q4 vw vr W' := h.fr (below_fr hb (fun _ => false) false) rfl rfl rfl
theorem BxF.set {f : Fst} {c : Conf} {q q4 : Nat} {vw vr : Value} {W : World} (h : BxF f c q q4 vw vr W) (hne : q4 ≠ q + 1) (o : Nat) (v : Value) (vw' vr' : Value) (hv : (#[vw, vr] : Array Value).setIfInBounds o v = #[vw', vr']) : BxF f c q q4 vw' vr' (W.setCell ⟨q4, o, none⟩ v) := by
  have hk := setCell_keeps W q4 o v
  have ne1 : q ≠ q4 := fun c => by
    have := h.hF; rw [c, h.h4] at this; simp only [Option.some.injEq, Obj.cells.injEq] at this; exact absurd this.2.1 (by decide)
  have ne3 : q + 2 ≠ q4 := fun c => by
    have := h.h3; rw [c, h.h4] at this; simp only [Option.some.injEq, Obj.cells.injEq] at this; exact absurd this.2.1 (by decide)
  refine ⟨(Below.heap_setCell _ _ _ _ ne1).trans h.hF, (Below.heap_setCell _ _ _ _ (Ne.symm hne)).trans h.h2, (Below.heap_setCell _ _ _ _ ne3).trans h.h3, ?_⟩
  rw [← hv]; exact setCell_same h.h4 o v
theorem setPair_fr {W : World} {q : Nat} {cs : Array Value} (h : W.heap[q]? = some (.cells cs 34 (0, 0))) (o : Nat) (v : Value) : Fr (fun T => T == 34) false W (W.setCell ⟨q, o, none⟩ v) :=
  keeps_fr (setCell_keeps W q o v) _ _ fun k e => ⟨_, _, _, e ▸ h, rfl⟩
theorem pairTy_w (T : TypeId) (h : wTy T = true) : (T == 34) = false := by
  cases hT : (T == 34)
  · rfl
  · rw [beq_iff_eq] at hT; subst hT; cases h
theorem pairTy_r (T : TypeId) (h : rTy T = true) : (T == 34) = false := by
  cases hT : (T == 34)
  · rfl
  · rw [beq_iff_eq] at hT; subst hT; cases h
theorem below_set {w W : World} {q o : Nat} {v : Value} (h : Below w.heap.size w W) (hq : w.heap.size ≤ q) : Below w.heap.size w (W.setCell ⟨q, o, none⟩ v) := keeps_below (setCell_keeps W q o v) h h.size fun k e => e ▸ hq

def BeginPost (f : Fst) (w : World) (e : Ending) (w' : World) : Prop := ∃ B R V s x, e = .returned (.agg #[.pointer (some ⟨B.wb, 0, none⟩), .pointer (some ⟨R.wb, 0, none⟩)]) ∧ Pr w w' B R V s x ∧ V = { v0 f.conf with its := f.its } ∧ Far s x 300 ∧ f.conf.ok = true ∧
  (f.gr = false → f.puts = [] → f.sts = [] → f.ticks ≤ 0 → s = CS.init [(2, f.conf.bits)])
def f00 : Fst := ⟨⟨0, 0, 0, 0, 0⟩, false, none, 0, [], none, 0, [], none, 0, [], 0⟩

set_option maxRecDepth 100000 in
set_option maxHeartbeats 4000000 in
theorem begin_zero (w : World) : Calls Tryz.prog 9 #[.agg #[.int .i64 0, .int .i64 0, .int .i64 0, .int .i64 0, .int .i64 0, .bool false, .slice none 0 0, .slice none 0 0, .slice none 0 0, .int .i64 0]] w (BeginPost f00 w) := by
  have hok : Fst.c f00 = ⟨0, 0, 0, 0, 0⟩ := rfl
  have hcf : Fst.conf f00 = conf10 := by unfold Fst.conf; rfl
  have hcok : (Fst.conf f00).ok = true := by rw [hcf]; decide
  obtain ⟨hwb, hb1, hb12⟩ := tword_bits hcok
  have HCF := Lib.hid hcf; have HOK := Lib.hid hcok; have HTW := Lib.hid hwb
  clear hcf hcok hwb
  go_enter Tryz.func9, Tryz.ntmps9
  go_upto_region 2 with (fail)
  have hF : (((w.alloc (.cells (Fst.cells f00) 28)).alloc (.cells #[.pointer none, .pointer none] 34)).alloc (.cells #[.int .i64 0, .int .i64 0, .int .i64 0, .int .i64 0, .int .i64 0] 23)).heap[w.heap.size]? = some (.cells (Fst.cells f00) 28 (0, 0)) := heap_alloc_old (heap_alloc_old (heap_alloc_new w _))
  have h2 : (((w.alloc (.cells (Fst.cells f00) 28)).alloc (.cells #[.pointer none, .pointer none] 34)).alloc (.cells #[.int .i64 0, .int .i64 0, .int .i64 0, .int .i64 0, .int .i64 0] 23)).heap[w.heap.size + 1]? = some (.cells #[.pointer none, .pointer none] 34 (0, 0)) := heap_alloc_old (heap_alloc_at _ _ (by simp))
  have h3 : (((w.alloc (.cells (Fst.cells f00) 28)).alloc (.cells #[.pointer none, .pointer none] 34)).alloc (.cells #[.int .i64 0, .int .i64 0, .int .i64 0, .int .i64 0, .int .i64 0] 23)).heap[w.heap.size + 1 + 1]? = some (.cells #[.int .i64 0, .int .i64 0, .int .i64 0, .int .i64 0, .int .i64 0] 23 (0, 0)) := heap_alloc_at _ _ (by simp)
  have hB3 : Below w.heap.size w (((w.alloc (.cells (Fst.cells f00) 28)).alloc (.cells #[.pointer none, .pointer none] 34)).alloc (.cells #[.int .i64 0, .int .i64 0, .int .i64 0, .int .i64 0, .int .i64 0] 23)) := (((Below.refl _ w).alloc (Nat.le_refl _) _).alloc (by simp) _).alloc (by simp; omega) _
  change Code.wp _ _ _ _ (((w.alloc (.cells (Fst.cells f00) 28)).alloc (.cells #[.pointer none, .pointer none] 34)).alloc (.cells #[.int .i64 0, .int .i64 0, .int .i64 0, .int .i64 0, .int .i64 0] 23))
  generalize ((w.alloc (.cells (Fst.cells f00) 28)).alloc (.cells #[.pointer none, .pointer none] 34)).alloc (.cells #[.int .i64 0, .int .i64 0, .int .i64 0, .int .i64 0, .int .i64 0] 23) = W3 at *
  have d0 := hcell h3 0; have d1 := hcell h3 1; have d2 := hcell h3 2; have d3 := hcell h3 3; have d4 := hcell h3 4
  have HF := Lib.hid hF; have H2 := Lib.hid h2; have H3 := Lib.hid h3; have HB3 := Lib.hid hB3
  clear hF h2 h3 hB3
  go_upto_region 4 with (first
    | (go_at_call 45; refine (rother_any ⟨0, 0, 0, 0, 0⟩ _).mono ?_; rintro e w4 ⟨rfl, b4⟩)
    | (go_at_call 44; refine (rmay_any ⟨0, 0, 0, 0, 0⟩ _).mono ?_; rw [show (⟨0, 0, 0, 0, 0⟩ : Conf).ok = false from rfl]; rintro e W4 ⟨rfl, b5⟩; clear d0 d1 d2 d3 d4; have hb4 : Below W3.heap.size W3 W4 := b4.trans (b5.mono b4.size); have h34 := (hb4.block _ (Array.getElem?_eq_some_iff.1 H3.out).1).trans H3.out; have d0 := hcell h34 0; have d1 := hcell h34 1; have d2 := hcell h34 2; have d3 := hcell h34 3; have d4 := hcell h34 4; have df := hfrz h34; have H34 := Lib.hid h34; have HB4 := Lib.hid hb4; clear h34 hb4))
  have hF0 := (HB4.out.block _ (Array.getElem?_eq_some_iff.1 HF.out).1).trans HF.out
  have h20 := (HB4.out.block _ (Array.getElem?_eq_some_iff.1 H2.out).1).trans H2.out
  have h3 : (((((W4.setCell ⟨w.heap.size + 1 + 1, 0, none⟩ (.int .i64 2)).setCell ⟨w.heap.size + 1 + 1, 1, none⟩ (.int .i64 8)).setCell ⟨w.heap.size + 1 + 1, 2, none⟩ (.int .i64 3)).setCell ⟨w.heap.size + 1 + 1, 3, none⟩ (.int .i64 1)).setCell ⟨w.heap.size + 1 + 1, 4, none⟩ (.int .i64 16)).heap[w.heap.size + 2]? = some (.cells #[.int .i64 (Fst.conf f00).bits, .int .i64 (Fst.conf f00).budget, .int .i64 (Fst.conf f00).tries, .int .i64 (Fst.conf f00).quantum, .int .i64 (Fst.conf f00).way] 23 (0, 0)) := by
    have := setCell_same (setCell_same (setCell_same (setCell_same (setCell_same H34.out 0 (.int .i64 2)) 1 (.int .i64 8)) 2 (.int .i64 3)) 3 (.int .i64 1)) 4 (.int .i64 16)
    rw [show (Fst.conf f00) = conf10 from HCF.out]
    exact this
  have hk5 : Keeps (· = w.heap.size + 1 + 1) W4 (((((W4.setCell ⟨w.heap.size + 1 + 1, 0, none⟩ (.int .i64 2)).setCell ⟨w.heap.size + 1 + 1, 1, none⟩ (.int .i64 8)).setCell ⟨w.heap.size + 1 + 1, 2, none⟩ (.int .i64 3)).setCell ⟨w.heap.size + 1 + 1, 3, none⟩ (.int .i64 1)).setCell ⟨w.heap.size + 1 + 1, 4, none⟩ (.int .i64 16)) := ((((setCell_keeps _ _ _ _).again (setCell_keeps _ _ _ _)).again (setCell_keeps _ _ _ _)).again (setCell_keeps _ _ _ _)).again (setCell_keeps _ _ _ _)
  clear d0 d1 d2 d3 d4 df
  change Code.wp _ _ _ _ (((((W4.setCell ⟨w.heap.size + 1 + 1, 0, none⟩ (.int .i64 2)).setCell ⟨w.heap.size + 1 + 1, 1, none⟩ (.int .i64 8)).setCell ⟨w.heap.size + 1 + 1, 2, none⟩ (.int .i64 3)).setCell ⟨w.heap.size + 1 + 1, 3, none⟩ (.int .i64 1)).setCell ⟨w.heap.size + 1 + 1, 4, none⟩ (.int .i64 16))
  generalize (((((W4.setCell ⟨w.heap.size + 1 + 1, 0, none⟩ (.int .i64 2)).setCell ⟨w.heap.size + 1 + 1, 1, none⟩ (.int .i64 8)).setCell ⟨w.heap.size + 1 + 1, 2, none⟩ (.int .i64 3)).setCell ⟨w.heap.size + 1 + 1, 3, none⟩ (.int .i64 1)).setCell ⟨w.heap.size + 1 + 1, 4, none⟩ (.int .i64 16)) = W5 at *
  have hF := (hk5.block _ (Array.getElem?_eq_some_iff.1 hF0).1 (by omega)).trans hF0
  have h2 := (hk5.block _ (Array.getElem?_eq_some_iff.1 h20).1 (by omega)).trans h20
  have hB5 : Below w.heap.size w W5 := keeps_below hk5 (HB3.out.trans (HB4.out.mono HB3.out.size)) (Nat.le_trans HB3.out.size HB4.out.size) fun k e => by omega
  clear b4 b5 hk5 hF0 h20
  have HBX0 : Hid (BxF f00 (Fst.conf f00) w.heap.size W5.heap.size (.pointer none) (.pointer none) (W5.alloc (.cells #[.pointer none, .pointer none] 34))) := ⟨heap_alloc_old hF, heap_alloc_old h2, heap_alloc_old h3, heap_alloc_new W5 _⟩
  have HB6 : Hid (Below w.heap.size w (W5.alloc (.cells #[.pointer none, .pointer none] 34))) := hB5.alloc hB5.size _
  have hq4 : w.heap.size + 1 < W5.heap.size := (Array.getElem?_eq_some_iff.1 h2).1
  have HSZ := Lib.hid hB5.size
  clear hF h2 h3 hB5 HF H2 H3 HB3
  go_upto_region 5 with (fail)
  generalize W5.alloc (.cells #[.pointer none, .pointer none] 34) = W6 at *
  obtain ⟨q4, hq4e⟩ : ∃ q4, q4 = W5.heap.size := ⟨_, rfl⟩
  rw [← hq4e] at HBX0 hq4 HSZ
  simp only [← hq4e]
  clear hq4e
  have hb := HBX0.out
  have d0 := hcell hb.h3 0; have d1 := hcell hb.h3 1; have d2 := hcell hb.h3 2; have d3 := hcell hb.h3 3; have d4 := hcell hb.h3 4
  clear hb
  generalize hfc : (Fst.conf f00) = fc at *
  go_upto_region 6 with (first
    | (go_at_call 45; refine (rother_any fc _).mono ?_; rintro e w7 ⟨rfl, b7⟩; have HB7 := Lib.hid b7; clear b7 d0 d1 d2 d3 d4)
    | (go_at_call 46; refine (rnew10_any fc HOK.out w7).mono ?_; rintro e w8 ⟨rb, cr, rib, rnb, rfl, hR, bR⟩; have hbx8 := (HBX0.out.below HB7.out).below bR; have e0 := hcell hbx8.h4 1; have ef := hfrz hbx8.h4 1; have HR8 := Lib.hid (rd_of hR (HB6.out.trans (HB7.out.mono HB6.out.size)) bR); have HBX8 := Lib.hid hbx8; have HB8 : Hid (Below w.heap.size w w8) := (HB6.out.trans (HB7.out.mono HB6.out.size)).trans (bR.mono (Nat.le_trans HB6.out.size HB7.out.size)); clear hbx8 hR bR))
  have hf9 := setPair_fr HBX8.out.h4 1 (.pointer (some ⟨rb, 0, none⟩))
  have hB9 := below_set (o := 1) (v := .pointer (some ⟨rb, 0, none⟩)) HB8.out (HSZ.out)
  have hbx9 := HBX8.out.set (by omega) 1 (.pointer (some ⟨rb, 0, none⟩)) (.pointer none) (.pointer (some ⟨rb, 0, none⟩)) rfl
  have HR9 := Lib.hid (HR8.out.fr hf9 pairTy_r hB9)
  have HBX9 := Lib.hid hbx9; have HB9 := Lib.hid hB9
  clear hf9 hB9 hbx9 e0 ef HR8 HBX8 HB8
  generalize w8.setCell ⟨q4, 1, none⟩ (.pointer (some ⟨rb, 0, none⟩)) = W9 at *
  have hb := HBX9.out
  have d0 := hcell hb.h3 0; have d1 := hcell hb.h3 1; have d2 := hcell hb.h3 2; have d3 := hcell hb.h3 3; have d4 := hcell hb.h3 4
  clear hb
  go_upto_region 7 with (go_at_call 47; refine (wnew_ok fc HOK.out W9).mono ?_; rintro e w10 ⟨wb, cb, ib, nb, rfl, g1, g2, g3, g4, g5, g6, g7⟩; have hbx10 := HBX9.out.below g3.below; have e0 := hcell hbx10.h4 0; have ef := hfrz hbx10.h4 0; have HW10 := Lib.hid (ws_of HB9.out g1 g2 g3 g4 g5 g6 g7); have HR10 := Lib.hid (HR9.out.keep g3.below); have HBX10 := Lib.hid hbx10; clear hbx10 g1 g2 g3 g4 g5 g6 g7 d0 d1 d2 d3 d4)
  have hf11 := setPair_fr HBX10.out.h4 0 (.pointer (some ⟨wb, 0, none⟩))
  have hB11 := below_set (o := 0) (v := .pointer (some ⟨wb, 0, none⟩)) HW10.out.below (HSZ.out)
  have hbx11 := HBX10.out.set (by omega) 0 (.pointer (some ⟨wb, 0, none⟩)) (.pointer (some ⟨wb, 0, none⟩)) (.pointer (some ⟨rb, 0, none⟩)) rfl
  have htw : tword fc.bits 0 = fc.bits := HTW.out
  have hws := HW10.out.fr hf11 pairTy_w hB11
  rw [htw] at hws
  have hpr : Pr w (w10.setCell ⟨q4, 0, none⟩ (.pointer (some ⟨wb, 0, none⟩))) ⟨wb, cb, ib, nb⟩ ⟨rb, cr, rib, rnb⟩ (v0 fc) (CS.init [(2, fc.bits)]) ⟨rfold [(2, fc.bits)], 0, 0, 0, 0, 0⟩ := ⟨hws, HR10.out.fr hf11 pairTy_r hB11, init_one _ (by omega)⟩
  have hfar := init_far1 fc.bits
  have HPR := Lib.hid hpr; have HFAR := Lib.hid hfar; have HBX := Lib.hid hbx11
  clear hf11 hB11 hbx11 htw hws hpr hfar e0 ef HW10 HR10 HBX10 HBX9 HB9 HR9 HB7 HBX0 HB6
  generalize w10.setCell ⟨q4, 0, none⟩ (.pointer (some ⟨wb, 0, none⟩)) = W11 at *
  generalize hs1 : CS.init [(2, fc.bits)] = s1 at *
  generalize (⟨rfold [(2, fc.bits)], 0, 0, 0, 0, 0⟩ : RS) = x1 at *
  obtain ⟨B, hBe⟩ : ∃ B : WB, B = ⟨wb, cb, ib, nb⟩ := ⟨_, rfl⟩
  obtain ⟨R, hRe⟩ : ∃ R : WB, R = ⟨rb, cr, rib, rnb⟩ := ⟨_, rfl⟩
  rw [← hBe, ← hRe] at HPR
  have ewb : wb = B.wb := by rw [hBe]
  have erb : rb = R.wb := by rw [hRe]
  subst ewb erb
  clear hBe hRe
  have hb := HBX.out
  have c40 := hcell hb.h4 0
  have cF5 : W11.cell? ⟨w.heap.size, 5, none⟩ = some (.bool false) := hcell hb.hF 5
  have cF2 := hcell hb.hF 6
  have c30 := hcell hb.h3 0
  have c41 := hcell hb.h4 1
  clear hb
  have HS1 := Lib.hid hs1; have HFC := Lib.hid hfc
  clear hs1 hfc
  have cF5 : W11.cell? ⟨w.heap.size, 5, none⟩ = some (.bool false) := hcell HBX.out.hF 5
  have cF6 : W11.cell? ⟨w.heap.size, 6, none⟩ = some (.slice none 0 0) := hcell HBX.out.hF 6
  have cF7 : W11.cell? ⟨w.heap.size, 7, none⟩ = some (.slice none 0 0) := hcell HBX.out.hF 7
  have cF8 : W11.cell? ⟨w.heap.size, 8, none⟩ = some (.slice none 0 0) := hcell HBX.out.hF 8
  have cF9 : W11.cell? ⟨w.heap.size, 9, none⟩ = some (.int .i64 0) := hcell HBX.out.hF 9
  have e20 := hcell HBX.out.h2 0
  have e21 := hcell HBX.out.h2 1
  have ef := hfrz HBX.out.h2
  clear cF2
  go_wp2_with fail
  refine wp_loop_rounds 1 ?_
  rw [rounds_succ]
  go_wp2_with fail
  refine wp_loop_rounds 1 ?_
  rw [rounds_succ]
  go_wp2_with fail
  refine wp_loop_rounds 1 ?_
  rw [rounds_succ]
  go_wp2_with fail
  refine wp_loop_rounds 1 ?_
  rw [rounds_succ]
  go_wp2
  have HBX6 := HBX
  have HPR6 := HPR
  have h2s := setCell_same (setCell_same HBX6.out.h2 0 (.pointer (some ⟨B.wb, 0, none⟩))) 1 (.pointer (some ⟨R.wb, 0, none⟩))
  have r0 := hcell h2s 0
  have r1 := hcell h2s 1
  refine bodyPost_ret (v := .agg #[.pointer (some ⟨B.wb, 0, none⟩), .pointer (some ⟨R.wb, 0, none⟩)]) (by simp [results, Tryz.results9, go_sem, r0, r1]; done) rfl ?_
  have hf2 := (setPair_fr HBX6.out.h2 0 (.pointer (some ⟨B.wb, 0, none⟩))).trans (setPair_fr (setCell_same HBX6.out.h2 0 (.pointer (some ⟨B.wb, 0, none⟩))) 1 (.pointer (some ⟨R.wb, 0, none⟩)))
  have hB2 := below_set (o := 1) (v := .pointer (some ⟨R.wb, 0, none⟩)) (below_set (o := 0) (v := .pointer (some ⟨B.wb, 0, none⟩)) HPR6.out.ws.below (Nat.le_succ _)) (Nat.le_succ _)
  exact ⟨B, R, _, s1, x1, rfl, ⟨HPR6.out.ws.fr hf2 pairTy_w hB2, HPR6.out.rd.fr hf2 pairTy_r hB2, HPR6.out.al⟩, by rw [show Fst.conf f00 = fc from HFC.out]; rfl, ⟨by have := HFAR.out.1; omega, by have := HFAR.out.2.1; omega, by have := HFAR.out.2.2; omega⟩, by rw [show Fst.conf f00 = fc from HFC.out]; exact HOK.out, fun _ _ _ _ => by
    rw [show Fst.conf f00 = fc from HFC.out]; exact HS1.out.symm⟩
end Go.Proofs.YtmakjfeepmiggaaGreat

/-
  Tickets: a Take, a Give, who waits.
-/
namespace Go.Proofs.YtmakjfeepmiggaaGreat
open Go.RowKit
set_option linter.unusedVariables false

/-- Of the old blocks only b, and such of some types, have turned. -/
structure Fx (K : TypeId → Bool) (mp : Bool) (b : Nat) (w w' : World) : Prop where
  size : w.heap.size ≤ w'.heap.size
  cells : ∀ (k : Nat) (cs : Array Value) (T : TypeId) (fr : Nat × Nat), w.heap[k]? = some (.cells cs T fr) → K T = false → k ≠ b → w'.heap[k]? = some (.cells cs T fr)
  map : mp = false → ∀ (k : Nat) (es : Array MapEntry) (cl : Nat), w.heap[k]? = some (.map es cl) → k ≠ b → w'.heap[k]? = some (.map es cl)
theorem Fr.fx {K : TypeId → Bool} {mp : Bool} {w w' : World} (h : Fr K mp w w') (b : Nat) : Fx K mp b w w' := ⟨h.size, fun k cs T fr h1 h2 _ => h.cells k cs T fr h1 h2, fun hm k es cl h1 _ => h.map hm k es cl h1⟩
theorem Fx.trans {K : TypeId → Bool} {mp : Bool} {b : Nat} {a c d : World} (h : Fx K mp b a c) (k : Fx K mp b c d) : Fx K mp b a d :=
  ⟨Nat.le_trans h.size k.size, fun i cs T fr hi hT hb => k.cells i cs T fr (h.cells i cs T fr hi hT hb) hT hb, fun hm i es cl hi hb => k.map hm i es cl (h.map hm i es cl hi hb) hb⟩
theorem set_fx (K : TypeId → Bool) (mp : Bool) (w : World) (b o : Nat) (v : Value) : Fx K mp b w (w.setCell ⟨b, o, none⟩ v) :=
  ⟨by simp [World.setCell], fun k cs T fr h _ hb => (Below.heap_setCell _ _ _ _ hb).trans h, fun _ k es cl h hb => (Below.heap_setCell _ _ _ _ hb).trans h⟩
theorem Fx.fr {K : TypeId → Bool} {mp : Bool} {b : Nat} {w w' : World} (h : Fx K mp b w w') {cs : Array Value} {T : TypeId} {fr : Nat × Nat} (hb : w.heap[b]? = some (.cells cs T fr)) : Fr (fun x => K x || x == T) mp w w' := by
  refine ⟨h.size, fun k cs2 T2 fr2 h2 hT => ?_, fun hm k es cl h2 => h.map hm k es cl h2 fun c => ?_⟩
  · simp only [Bool.or_eq_false_iff] at hT
    refine h.cells k cs2 T2 fr2 h2 hT.1 fun c => ?_
    subst c
    have := hb.symm.trans h2; simp only [Option.some.injEq, Obj.cells.injEq] at this
    have h3 := hT.2; rw [this.2.1] at h3; simp at h3
  · subst c; rw [hb] at h2; cases h2

theorem mkfunc (fn : Fn) (first cap : Array Value) (w : World) : (Instr.makeFunc fn first cap).run Tryz.prog w = .ok (.func fn first cap) w := rfl
/-- The worlds' types, and a Take's. -/
theorem WS.cellb {w0 w : World} {B : WB} {V : WV} {s : CS} (h : WS w0 w B V s) (t : Nat) (ht : t < 64) : w.cell? ⟨B.wb, 8 + t, none⟩ = some (.int .u64 (V.tk.getD t 0)) := (h.cell (8 + t)).trans (val_tkat B V h.tkl t ht)
theorem WS.hcell' {w0 w : World} {B : WB} {V : WV} {s : CS} (h : WS w0 w B V s) : w.cell? ⟨B.wb, 72, none⟩ = some (.int .i64 V.hd) := (h.cell 72).trans (val_at B V h.tkl).2.2.2.2.2
theorem WS.frz {w0 w : World} {B : WB} {V : WV} {s : CS} (h : WS w0 w B V s) (o : Nat) : w.frozen? ⟨B.wb, o, none⟩ = false := hfrz h.blk o
theorem WS.fx {w0 w w' : World} {B : WB} {V : WV} {s : CS} {K : TypeId → Bool} {b : Nat} (h : WS w0 w B V s) (hf : Fx K false b w w') (hK : ∀ T, wTy T = true → K T = false) {cs : Array Value} {T : TypeId} {fr : Nat × Nat} (hb : w.heap[b]? = some (.cells cs T fr)) (hT : wTy T = false) (hB : Below w0.heap.size w0 w') : WS w0 w' B V s :=
  h.fr (hf.fr hb) (fun x hx => by simp only [Bool.or_eq_false_iff]; exact ⟨hK x hx, by cases hxT : (x == T); rfl; rw [beq_iff_eq] at hxT; subst hxT; rw [hx] at hT; cases hT⟩) hB
theorem set_take {w0 w : World} {B : WB} {V : WV} {s : CS} {b o : Nat} {cs : Array Value} {T : TypeId} (h : WS w0 w B V s) (hb : w.heap[b]? = some (.cells cs T (0, 0))) (hT : wTy T = false) (hlo : w0.heap.size ≤ b) (v : Value) : WS w0 (w.setCell ⟨b, o, none⟩ v) B V s :=
  h.fx (set_fx (fun _ => false) false w b o v) (fun _ _ => rfl) hb hT (keeps_below (setCell_keeps w b o v) h.below h.below.size fun k e => e ▸ hlo)

section
variable {w0 w : World} {B : WB} {V : WV} {s : CS} {b t : Nat} {d : Bool} {k : Int} (h : WS w0 w B V s) (hr : s.room) (hlo : w0.heap.size ≤ b) (ht : t < 64)
include h hr hlo ht
end
end Go.Proofs.YtmakjfeepmiggaaGreat

/-
  A world's note.
-/
namespace Go.Proofs.YtmakjfeepmiggaaGreat
open Go.RowKit Go.Maps
set_option linter.unusedVariables false

theorem u8_nn {k : Int} (h : (Lit.int .u8 k).wf = true) : 0 ≤ k ∧ k < 256 := by
  have hmin : IntKind.u8.min = 0 := rfl
  have hmax : IntKind.u8.max = 255 := rfl
  simp only [Lit.wf, Bool.and_eq_true, decide_eq_true_eq] at h; omega
theorem nTy_w (T : TypeId) (h : wTy T = false) : nTy T = false := by
  unfold wTy at h
  simp only [Bool.or_eq_false_iff] at h
  unfold nTy
  rw [h.1.2, h.2]; rfl
section
variable {w0 w w' : World} {B : WB} {V : WV} {s : CS}
theorem WS.noted (h : WS w0 w B V s) {l : List Nte} (hn : NL w' w0.heap.size B.nb 286 171 .u8 l) (hf : Fr nTy false w w') (hB : Below w0.heap.size w0 w') : WS w0 w' B { V with nts := l } s := by
  obtain ⟨S, ha⟩ := h.ar
  exact ⟨h.own.fr hf hB rfl rfl, hf.cells _ _ _ _ h.blk rfl, h.lo, ⟨S, ha.fr hf rfl rfl rfl⟩, hn, h.tkl, h.fmk.fr h.own hf rfl⟩
theorem WS.hd5 (h : WS w0 w B V s) : w.cell? ⟨B.wb, 0, none⟩ = some (.pointer (some ⟨B.cb, 0, none⟩)) ∧ w.cell? ⟨B.wb, 1, none⟩ = some (.pointer (some ⟨B.ib, 0, none⟩)) ∧ w.cell? ⟨B.wb, 2, none⟩ = some (.pointer (some ⟨B.nb, 0, none⟩)) ∧ w.cell? ⟨B.wb, 72, none⟩ = some (.int .i64 V.hd) :=
  ⟨h.c0, (h.cell 1).trans (val_at B V h.tkl).2.1, (h.cell 2).trans (val_at B V h.tkl).2.2.1, (h.cell 72).trans (val_at B V h.tkl).2.2.2.2.2⟩
theorem WS.last5 (h : WS w0 w B V s) : Calls Tryz.prog 69 #[.pointer (some ⟨B.cb, 0, none⟩)] w fun e w' => e = .returned (.agg #[.int .u8 s.kind, .int .u64 s.addr, .int .u64 s.was, .int .u64 s.is]) ∧ Below w.heap.size w w' := by
  obtain ⟨⟨S, hS⟩, hB⟩ := h.own
  exact last_any w _ B.cb s S hS
theorem WS.iat5 (h : WS w0 w B V s) (hl : V.its.length ≤ 1048576) (r : Int) : Calls Tryz.prog 75 #[.pointer (some ⟨B.ib, 0, none⟩), .int .i64 r] w fun e w' => e = .returned (.tuple #[.agg #[.string ((atOf V.its r).1).key, .string ((atOf V.its r).1).val, .int .u32 ((atOf V.its r).1).flags, .int .u64 ((atOf V.its r).1).id, .int .i64 ((atOf V.its r).1).dies, .int .i64 ((atOf V.its r).1).gen], .bool (atOf V.its r).2]) ∧ Below w.heap.size w w' := by
  obtain ⟨S, hS⟩ := h.ar
  exact iat_any _ _ _ S r w hS hl
theorem WS.steps5 (h : WS w0 w B V s) : Calls Tryz.prog 67 #[.pointer (some ⟨B.wb, 0, none⟩)] w fun e w' => e = .returned (.int .i64 s.cnt) ∧ w' = w := steps_any h.wld
/-- Do the notes' steps rise up to what was done? -/
def Nsteps (l : List Nte) (c : Int) : Prop := ∀ y ∈ l, y.step ≤ c
theorem Nsteps.le {l : List Nte} {c d : Int} (h : Nsteps l c) (hc : c ≤ d) : Nsteps l d := fun y hy => Int.le_trans (h y hy) hc
theorem Nsteps.add {l : List Nte} {c : Int} {n : Nte} (h : Nsteps l c) (hn : n.step = c) : Nsteps (nadd l n) c := by
  unfold nadd
  split
  · intro y hy
    rcases List.mem_append.1 hy with h1 | h1
    · exact h y h1
    · simp only [List.mem_singleton] at h1; subst h1; rw [hn]; exact Int.le_refl _
  · exact h
theorem nadd_len (l : List Nte) (n : Nte) : (nadd l n).length ≤ l.length + 1 := by unfold nadd; split <;> simp
theorem wladd (h : WS w0 w B V s) (n : Nte) (hl : V.nts.length < 1048576) (hkb : 0 ≤ n.kind) (hs : Nsteps V.nts n.step) :
    Calls Tryz.prog 227 #[.pointer (some ⟨B.nb, 0, none⟩), .agg (nteC .u8 n).toArray] w fun e w' => (∃ k, e = .returned (.int .i64 k)) ∧ WS w0 w' B { V with nts := nadd V.nts n } s ∧ Fr nTy false w w' := by
  by_cases hk : 1 ≤ n.kind ∧ n.kind ≤ 9
  · refine (ladd_ok h.nt h.below h.below.size hl hk (fun y hy => hs y (List.mem_of_getLast? hy))).mono fun e w' ⟨h1, h2, h3, h4⟩ => ⟨h1, ?_, h3⟩
    have : nadd V.nts n = V.nts ++ [n] := by unfold nadd; rw [if_pos hk]
    rw [this]
    exact h.noted h2 h3 h4
  · refine (ladd_no h.nt (by omega)).mono fun e w' ⟨h1, h2⟩ => ⟨h1, ?_, below_fr h2 _ _⟩
    have : nadd V.nts n = V.nts := by unfold nadd; rw [if_neg hk]
    rw [this]
    exact h.keep h2
set_option maxRecDepth 10000 in
set_option maxHeartbeats 2000000 in
theorem wnote_any (h : WS w0 w B V s) (k r b u sl v : Int) (hl : V.nts.length < 1048576) (hkb : (Lit.int .u8 k).wf = true) (hs : Nsteps V.nts s.cnt) :
    Calls Tryz.prog 212 #[.pointer (some ⟨B.wb, 0, none⟩), .int .u8 k, .int .i64 r, .agg #[.int .i64 b, .int .i64 u, .int .i64 sl], .int .i64 v] w fun e w' => e = .returned (.tuple #[]) ∧ WS w0 w' B { V with nts := nadd V.nts ⟨s.cnt, V.hd, k, r, b, u, sl, v⟩ } s ∧ Fr wTy true w w' := by
  have hb := below_alloc w (.cells #[.int .i64 b, .int .i64 u, .int .i64 sl] 71)
  have hz := heap_alloc_new w (.cells #[.int .i64 b, .int .i64 u, .int .i64 sl] 71)
  have h1 := h.keep hb
  have hk0 := (u8_nn hkb).1
  have HB := Lib.hid hb; have HZ := Lib.hid hz; have H1 := Lib.hid h1; have HL := Lib.hid hl; have HS := Lib.hid hs; have HK0 := Lib.hid hk0
  clear h hb hz h1 hl hkb hs hk0
  go_enter Tryz.func212, Tryz.ntmps212
  go_upto_region 2 with (fail)
  change Code.wp _ _ _ _ (w.alloc (.cells #[.int .i64 b, .int .i64 u, .int .i64 sl] 71))
  generalize w.alloc (.cells #[.int .i64 b, .int .i64 u, .int .i64 sl] 71) = w1 at *
  have HB0 : Hid (Fr wTy true w w1) := below_fr HB.out _ _
  clear HB
  generalize w.heap.size = nq at *
  have x2 : ∀ st : ExtW w1, st.val.cell? ⟨B.wb, 2, none⟩ = some (.pointer (some ⟨B.nb, 0, none⟩)) := fun st => st.cell H1.out.hd5.2.2.1
  have x72 : ∀ st : ExtW w1, st.val.cell? ⟨B.wb, 72, none⟩ = some (.int .i64 V.hd) := fun st => st.cell H1.out.hd5.2.2.2
  have z0 : ∀ st : ExtW w1, st.val.cell? ⟨nq, 0, none⟩ = some (.int .i64 b) := fun st => st.cell (hcell HZ.out 0)
  have z1 : ∀ st : ExtW w1, st.val.cell? ⟨nq, 1, none⟩ = some (.int .i64 u) := fun st => st.cell (hcell HZ.out 1)
  have z2 : ∀ st : ExtW w1, st.val.cell? ⟨nq, 2, none⟩ = some (.int .i64 sl) := fun st => st.cell (hcell HZ.out 2)
  have m1 : ∀ st : ExtW w1, Calls Tryz.prog 67 #[.pointer (some ⟨B.wb, 0, none⟩)] st.val fun e w' => e = .returned (.int .i64 s.cnt) ∧ st.val = w' := fun st => (H1.out.keep st.below).steps5.mono fun e w' ⟨h1, h2⟩ => ⟨h1, h2.symm⟩
  refine wp_region_ext_tail 15 (by kernel_rfl) (by kernel_rfl) ?_
  simp only [List.take_succ_cons, List.take_zero, List.drop_succ_cons, List.drop_zero]
  repeat (go_big_quiet_step ((go_at_call 67; with_reducible refine calls_ext_same (m1 _))))
  refine wpQuiet_nil ?_
  rintro W ⟨⟨W2, hW⟩, rfl⟩
  clear x2 x72 z0 z1 z2 m1
  have hadd := wladd (H1.out.keep hW) ⟨s.cnt, V.hd, k, r, b, u, sl, v⟩ HL.out HK0.out HS.out
  have HW := Lib.hid hW
  clear hW
  go_wp2_with (go_at_call 227; refine hadd.mono ?_; intro e w3 hh; obtain ⟨⟨kk, hh1⟩, h3, f3⟩ := hh; subst hh1; have H3 := Lib.hid h3; have F3 := Lib.hid f3; clear h3 f3 hadd)
  go_end0
  exact ⟨rfl, H3.out, (HB0.out.trans (below_fr HW.out _ _)).trans (F3.out.mono nTy_w (fun h => by cases h))⟩
end
end Go.Proofs.YtmakjfeepmiggaaGreat

/-
  The document's notes: List.Add, and its world's note.
-/
namespace Go.Proofs.YtmakjfeepmiggaaGreat
open Go.RowKit Go.Maps
set_option linter.unusedVariables false

theorem rinfo_note : (Tryz.prog.info? 168).map (fun i => (i.zero, i.size, i.bytes)) = some (some (.agg #[.int .i64 0, .int .i64 0, .int .i64 0, .int .i64 0, .int .i64 0, .int .i64 0, .int .i64 0, .int .i64 0]), 8, 64) := by kernel_rfl
def rnTy (T : TypeId) : Bool := T == 163 || T == 168
theorem rnTy_l (T : TypeId) (h : rnTy T = false) : (T == 163) = false := by unfold rnTy at h; simp only [Bool.or_eq_false_iff] at h; exact h.1
theorem rnTy_n (T : TypeId) (h : rnTy T = false) : (T == 168) = false := by unfold rnTy at h; simp only [Bool.or_eq_false_iff] at h; exact h.2
theorem rnte_at (l : List Nte) (k : Nat) (hk : k < l.length) (j : Nat) (hj : j < 8) : (l.flatMap (nteC .i64))[k * 8 + j]? = (nteC .i64 l[k])[j]? := by
  induction l generalizing k with
  | nil => simp at hk
  | cons x r ih =>
    rw [List.flatMap_cons]
    match k with
    | 0 =>
      rw [List.getElem?_append_left (by simp [nteC]; omega)]
      simp
    | k + 1 =>
      rw [List.getElem?_append_right (by simp [nteC]; omega)]
      have := ih k (by simp at hk; omega)
      simp only [List.getElem_cons_succ]
      rw [← this]
      congr 1
      simp [nteC]; omega
theorem rrow8_at {w : World} {base : Nat} {a : Option Addr} {cap : Nat} {l : List Nte} (h : w.ownsRow base 168 8 (.slice a l.length cap) l.length (l.flatMap (nteC .i64))) (k : Nat) (hk : k < l.length) :
    ∃ g, a = some ⟨g, 0, none⟩ ∧ ∀ j, j < 8 → w.cell? ⟨g, k * 8 + j, none⟩ = (nteC .i64 l[k])[j]? := by
  obtain ⟨h1, ⟨h2, h0⟩ | ⟨g, cap', cur, hv, hb, hg, hn, hm, hs, ht⟩⟩ := h
  · omega
  · simp only [Value.slice.injEq] at hv
    refine ⟨g, hv.1, fun j hj => ?_⟩
    rw [hcell hg, ← rnte_at l k hk j hj, ← ht, List.getElem?_take, if_pos (by omega)]
    simp
set_option maxRecDepth 10000 in
set_option maxHeartbeats 2000000 in
theorem rladd_no {w : World} {nb : Nat} {n : Nte} (hk : n.kind < 1 ∨ 9 < n.kind) :
    Calls Tryz.prog 211 #[.pointer (some ⟨nb, 0, none⟩), .agg (nteC .i64 n).toArray] w fun e w' => (∃ k, e = .returned (.int .i64 k)) ∧ Below w.heap.size w w' := by
  have hb := below_alloc w (.cells (nteC .i64 n).toArray 168)
  have hz := heap_alloc_new w (.cells (nteC .i64 n).toArray 168)
  have HB := Lib.hid hb; have HZ := Lib.hid hz; have HK := Lib.hid hk
  clear hb hz hk
  go_enter Tryz.func211, Tryz.ntmps211
  go_upto_region 1 with (fail)
  change Code.wp _ _ _ _ (w.alloc (.cells (nteC .i64 n).toArray 168))
  generalize w.alloc (.cells (nteC .i64 n).toArray 168) = w1 at *
  have z2 : w1.cell? ⟨w.heap.size, 2, none⟩ = some (.int .i64 n.kind) := hcell HZ.out 2
  rcases HK.out with hk | hk
  · have d1 : decide (n.kind < 1) = true := decide_eq_true hk
    go_wp2
    go_ret
    exact ⟨⟨_, rfl⟩, HB.out⟩
  · have d1 : decide (n.kind < 1) = false := decide_eq_false (by omega)
    have d2 : decide (9 < n.kind) = true := decide_eq_true hk
    go_wp2
    go_ret
    exact ⟨⟨_, rfl⟩, HB.out⟩
set_option maxRecDepth 10000 in
set_option maxHeartbeats 4000000 in
theorem rladd_ok {w0 w : World} {base nb : Nat} {l : List Nte} {n : Nte} (h : NL w base nb 163 168 .i64 l) (hB : Below base w0 w) (hsz : base ≤ w.heap.size) (hl : l.length < 1048576) (hk : 1 ≤ n.kind ∧ n.kind ≤ 9) (hs : ∀ y, l.getLast? = some y → y.step ≤ n.step) :
    Calls Tryz.prog 211 #[.pointer (some ⟨nb, 0, none⟩), .agg (nteC .i64 n).toArray] w fun e w' => (∃ k, e = .returned (.int .i64 k)) ∧ NL w' base nb 163 168 .i64 (l ++ [n]) ∧ Fr rnTy false w w' ∧ Below base w0 w' := by
  obtain ⟨i0, hi0, hz0, hz1, hz2⟩ := info_parts rinfo_note
  have HI := Lib.hid hi0; have HZ0 := Lib.hid hz0; have HZ1 := Lib.hid hz1; have HZ2 := Lib.hid hz2
  have hb := below_alloc w (.cells (nteC .i64 n).toArray 168)
  have hz := heap_alloc_new w (.cells (nteC .i64 n).toArray 168)
  have h1 := h.fr (below_fr hb (fun _ => false) false) rfl rfl
  have HBB : Hid (Below base w0 (w.alloc (.cells (nteC .i64 n).toArray 168))) := hB.trans (hb.mono hsz)
  have HSZ : Hid (base ≤ (w.alloc (.cells (nteC .i64 n).toArray 168)).heap.size) := Nat.le_trans hsz hb.size
  have HB := Lib.hid hb; have H1 := Lib.hid h1; have HZ := Lib.hid hz; have HL := Lib.hid hl; have HK := Lib.hid hk; have HS := Lib.hid hs
  clear h hb hz h1 hl hk hs hi0 hz0 hz1 hz2 hB hsz
  go_enter Tryz.func211, Tryz.ntmps211
  go_upto_region 1 with (fail)
  change Code.wp _ _ _ _ (w.alloc (.cells (nteC .i64 n).toArray 168))
  generalize w.alloc (.cells (nteC .i64 n).toArray 168) = w1 at *
  have z2 := hcell HZ.out 2
  have dk1 : decide (n.kind < 1) = false := decide_eq_false (by have := HK.out; omega)
  have dk2 : decide (9 < n.kind) = false := decide_eq_false (by have := HK.out; omega)
  have z2' : w1.cell? ⟨w.heap.size, 2, none⟩ = some (.int .i64 n.kind) := z2
  clear z2
  go_upto_region 3 with (fail)
  clear dk1 dk2 z2'
  have HFC0 : Hid (Fr rnTy false w w1) := below_fr HB.out _ _
  clear HB
  generalize w.heap.size = nq at *
  go_cut [36] (fun v wx => v = .bool false ∧ Below w1.heap.size w1 wx)
  case first =>
    obtain ⟨v0, hb1, hb2, hrow⟩ := H1.out
    obtain ⟨a, cap, rfl⟩ := own_sl2 hrow
    have c0 := hcell hb1 0
    clear hb1 hb2
    have hk := HK.out
    have hl := HL.out
    have x0 : ∀ st : ExtW w1, st.val.cell? ⟨nq, 0, none⟩ = some (.int .i64 n.step) := fun st => st.cell (hcell HZ.out 0)
    have y0 : ∀ st : ExtW w1, st.val.cell? ⟨nb, 0, none⟩ = some (.slice a l.length cap) := fun st => st.cell c0
    by_cases h0 : l.length = 0
    · have e0 : decide ((0 : Int) < l.length) = false := decide_eq_false (by omega)
      have e0n : decide (0 < l.length) = false := decide_eq_false (by omega)
      clear hrow c0 hk hl h0
      refine wp_region_ext (by kernel_rfl) (by kernel_rfl) ?_
      repeat (go_big_quiet_step (fail))
      refine wpQuiet_nil ?_
      rintro W ⟨⟨W2, hW⟩, rfl⟩
      clear x0 y0
      have HW := Lib.hid hW
      go_wp2_with fail
      go_meet
      case rel => exact ⟨rfl, HW.out⟩
    · obtain ⟨k, hk1⟩ : ∃ k, l.length = k + 1 := ⟨l.length - 1, by omega⟩
      have hkl : k < l.length := by omega
      obtain ⟨g, rfl, hcs⟩ := rrow8_at hrow k hkl
      have hst : (l[k]).step ≤ n.step := HS.out _ (by rw [List.getLast?_eq_getElem?, show l.length - 1 = k by omega]; exact List.getElem?_eq_getElem hkl)
      have y1 : ∀ st : ExtW w1, st.val.cell? ⟨g, k * 8, none⟩ = some (.int .i64 (l[k]).step) := fun st => st.cell (hcs 0 (by omega))
      generalize (l[k]).step = ys at *
      clear hrow c0 hk hcs hkl h0
      generalize l.length = L at *
      subst hk1
      have e0 : decide ((0 : Int) < ((k + 1 : Nat) : Int)) = true := decide_eq_true (by omega)
      have e0n : decide (0 < k + 1) = true := decide_eq_true (by omega)
      have d3 : decide (n.step < ys) = false := decide_eq_false (by omega)
      clear hst
      refine wp_region_ext (by kernel_rfl) (by kernel_rfl) ?_
      repeat (go_big_quiet_step (fail))
      refine wpQuiet_nil ?_
      rintro W ⟨⟨W2, hW⟩, rfl⟩
      clear x0 y0 y1
      have HW := Lib.hid hW
      go_wp2_with fail
      go_meet
      case rel => exact ⟨rfl, HW.out⟩
  case rest =>
  obtain ⟨hcv, hbx⟩ := hcut
  subst hcv
  have hnl := H1.out.fr (below_fr hbx (fun _ => false) false) rfl rfl
  have hnq := (hbx.block _ (Array.getElem?_eq_some_iff.1 HZ.out).1).trans HZ.out
  obtain ⟨v, hl1, hl2, hl3⟩ := hnl
  obtain ⟨ao, cap, rfl⟩ := own_sl2 hl3
  have hqlt := (Array.getElem?_eq_some_iff.1 hl1).1
  have hnlt := (Array.getElem?_eq_some_iff.1 hnq).1
  have l0 := hcell hl1 0
  have lf := hfrz hl1 0
  have l0' : ∀ o, (wc.alloc o).cell? ⟨nb, 0, none⟩ = some (.slice ao l.length cap) := fun o => by rw [World.cell?_alloc_past _ _ _ hqlt]; exact l0
  have lf' : ∀ o, (wc.alloc o).frozen? ⟨nb, 0, none⟩ = false := fun o => by rw [World.frozen?_alloc_past _ _ _ hqlt]; exact lf
  have hl := HL.out
  have dm : decide ((1048576 : Int) ≤ l.length) = false := decide_eq_false (by omega)
  have k0 : wc.cell? ⟨nq, 0, none⟩ = some (.int .i64 n.step) := hcell hnq 0
  have k1 : wc.cell? ⟨nq, 1, none⟩ = some (.int .i64 n.thread) := hcell hnq 1
  have k2 : wc.cell? ⟨nq, 2, none⟩ = some (.int .i64 n.kind) := hcell hnq 2
  have k3 : wc.cell? ⟨nq, 3, none⟩ = some (.int .i64 n.ref) := hcell hnq 3
  have k4 : wc.cell? ⟨nq, 4, none⟩ = some (.int .i64 n.bits) := hcell hnq 4
  have k5 : wc.cell? ⟨nq, 5, none⟩ = some (.int .i64 n.bucket) := hcell hnq 5
  have k6 : wc.cell? ⟨nq, 6, none⟩ = some (.int .i64 n.slot) := hcell hnq 6
  have k7 : wc.cell? ⟨nq, 7, none⟩ = some (.int .i64 n.value) := hcell hnq 7
  have E2 : Hid (l.length + 1 ≤ maxLen) := by unfold maxLen; show l.length + 1 ≤ _; omega
  have E3 : Hid ((l.length + 1) * 64 ≤ 140737488355328) := by show (l.length + 1) * 64 ≤ 140737488355328; omega
  have E4 : Hid (base ≤ wc.heap.size) := Nat.le_trans HSZ.out hbx.size
  have HNW : Hid (((wc.drew).alloc (.cells #[.int .i64 n.step, .int .i64 n.thread, .int .i64 n.kind, .int .i64 n.ref, .int .i64 n.bits, .int .i64 n.bucket, .int .i64 n.slot, .int .i64 n.value] 168)).heap[wc.heap.size]? = some (.cells #[.int .i64 n.step, .int .i64 n.thread, .int .i64 n.kind, .int .i64 n.ref, .int .i64 n.bits, .int .i64 n.bucket, .int .i64 n.slot, .int .i64 n.value] 168 (0, 0))) := heap_alloc_new (wc.drew) _
  have HW0 : Hid (Below wc.heap.size wc ((wc.drew).alloc (.cells #[.int .i64 n.step, .int .i64 n.thread, .int .i64 n.kind, .int .i64 n.ref, .int .i64 n.bits, .int .i64 n.bucket, .int .i64 n.slot, .int .i64 n.value] 168))) := ((Below.refl _ _).drew).alloc (Nat.le_refl _) _
  have HBC : Hid (Below base w0 wc) := HBB.out.trans (hbx.mono HSZ.out)
  have HFC : Hid (Fr rnTy false w wc) := HFC0.out.trans (below_fr hbx _ _)
  have HL1 := Lib.hid hl1; have HL3 := Lib.hid hl3; have HLO := Lib.hid hl2
  clear hl1 hl3 hl2 hnq hbx H1 HS HK
  go_upto_region 7 with (fail)
  clear dm hl
  go_region_law ((refine step_append_lies _ (by rfl) _ _ _ (by rfl) base 168 i0 _ 8 64 Tryz.underlying161 HI.out HZ0.out HZ1.out HZ2.out rfl (by decide) (.slice ao l.length cap) l.length (l.flatMap (nteC .i64)) (by rfl) ((HL3.out.drew).alloc _) ⟨wc.heap.size, 0, none⟩ 1 1 (nteC .i64 n) (by rfl) (by rfl) (World.news_of_block (cs := #[.int .i64 n.step, .int .i64 n.thread, .int .i64 n.kind, .int .i64 n.ref, .int .i64 n.bits, .int .i64 n.bucket, .int .i64 n.slot, .int .i64 n.value]) (t := 168) (fr := (0, 0)) HNW.out) (by simp [Value.oneCell', nteC]) (by omega) E2.out E3.out (by have := E4.out; simp; omega) (wc.heap.size + 1) (by simp) ?_; intro g cap1 w4 hown1 hgrow hat hlt; have HOW := Lib.hid hown1; have HGR := Lib.hid hgrow; have hq4 : w4.heap[nb]? = some (.cells #[.slice ao l.length cap] 163 (0, 0)) := (grown_ty ((HL3.out.drew).alloc _) hgrow).cells _ _ _ _ ((HW0.out.block _ (Array.getElem?_eq_some_iff.1 HL1.out).1).trans HL1.out) rfl; have t0 := hcell hq4 0; have t1 := hfrz hq4 0; have HQ4 := Lib.hid hq4; clear hown1 hgrow hat hlt hq4))
  all_goals
    have hB4 : Below base w0 w4 := grown_below ((HL3.out.drew).alloc _) HGR.out (HBC.out.trans (HW0.out.mono E4.out)) (Nat.le_trans E4.out HW0.out.size) (Nat.le_refl _)
    have f4 : Fr rnTy false wc w4 := (below_fr HW0.out _ _).trans ((grown_ty ((HL3.out.drew).alloc _) HGR.out).mono rnTy_n id)
    have f5 := set_ty HQ4.out 0 (.slice (some ⟨g, 0, none⟩) (l.length + 1) cap1)
    have hB5 := set_below hB4 (Nat.le_trans E4.out f4.size) HLO.out 0 (.slice (some ⟨g, 0, none⟩) (l.length + 1) cap1)
    have hq5 := setCell_same HQ4.out 0 (.slice (some ⟨g, 0, none⟩) (l.length + 1) cap1)
    have h1 := own_fr HOW.out f5 rfl
    have FIN : Hid (NL (w4.setCell ⟨nb, 0, none⟩ (.slice (some ⟨g, 0, none⟩) (l.length + 1) cap1)) base nb 163 168 .i64 (l ++ [n]) ∧ Fr rnTy false w (w4.setCell ⟨nb, 0, none⟩ (.slice (some ⟨g, 0, none⟩) (l.length + 1) cap1)) ∧ Below base w0 (w4.setCell ⟨nb, 0, none⟩ (.slice (some ⟨g, 0, none⟩) (l.length + 1) cap1))) := by
      refine ⟨⟨_, hq5, HLO.out, ?_⟩, (HFC.out.trans f4).trans (f5.mono rnTy_l id), hB5⟩
      rw [List.length_append, List.flatMap_append]
      simpa using h1
    clear hB4 f4 f5 hB5 hq5 h1 HQ4 HGR HOW t0 t1 l0 l0' lf lf' k0 k1 k2 k3 k4 k5 k6 k7
    generalize w4.setCell ⟨nb, 0, none⟩ (.slice (some ⟨g, 0, none⟩) (l.length + 1) cap1) = w5 at *
    go_wp2_with fail
    go_ret
    exact ⟨⟨_, rfl⟩, FIN.out⟩
theorem rnTy_r (T : TypeId) (h : rTy T = false) : rnTy T = false := by
  unfold rTy at h
  simp only [Bool.or_eq_false_iff] at h
  unfold rnTy
  rw [h.1.2, h.2]; rfl
section
variable {w0 w w' : World} {B : WB} {V : WV} {x : RS}
theorem RD.noted (h : RD w0 w B V x) {l : List Nte} (hn : NL w' w0.heap.size B.nb 163 168 .i64 l) (hf : Fr rnTy false w w') (hB : Below w0.heap.size w0 w') : RD w0 w' B { V with nts := l } x := by
  obtain ⟨S, ha⟩ := h.ar
  obtain ⟨lv, hr⟩ := h.ref
  exact ⟨hB, ⟨lv, hf.cells _ _ _ _ hr.hdr rfl, hr.lo, own_fr hr.row hf rfl, hr.wf⟩, hf.cells _ _ _ _ h.blk rfl, h.lo, ⟨S, ha.fr hf rfl rfl⟩, hn, h.tkl⟩
theorem RD.hd5 (h : RD w0 w B V x) : w.cell? ⟨B.wb, 0, none⟩ = some (.pointer (some ⟨B.cb, 0, none⟩)) ∧ w.cell? ⟨B.wb, 1, none⟩ = some (.pointer (some ⟨B.ib, 0, none⟩)) ∧ w.cell? ⟨B.wb, 2, none⟩ = some (.pointer (some ⟨B.nb, 0, none⟩)) ∧ w.cell? ⟨B.wb, 72, none⟩ = some (.int .i64 V.hd) :=
  ⟨h.c0, (h.cell 1).trans (val_at B V h.tkl).2.1, (h.cell 2).trans (val_at B V h.tkl).2.2.1, (h.cell 72).trans (val_at B V h.tkl).2.2.2.2.2⟩
theorem rwladd (h : RD w0 w B V x) (n : Nte) (hl : V.nts.length < 1048576) (hs : Nsteps V.nts n.step) :
    Calls Tryz.prog 211 #[.pointer (some ⟨B.nb, 0, none⟩), .agg (nteC .i64 n).toArray] w fun e w' => (∃ k, e = .returned (.int .i64 k)) ∧ RD w0 w' B { V with nts := nadd V.nts n } x ∧ Fr rnTy false w w' := by
  by_cases hk : 1 ≤ n.kind ∧ n.kind ≤ 9
  · refine (rladd_ok h.nt h.below h.below.size hl hk (fun y hy => hs y (List.mem_of_getLast? hy))).mono fun e w' ⟨h1, h2, h3, h4⟩ => ⟨h1, ?_, h3⟩
    have : nadd V.nts n = V.nts ++ [n] := by unfold nadd; rw [if_pos hk]
    rw [this]
    exact h.noted h2 h3 h4
  · refine (rladd_no (by omega)).mono fun e w' ⟨h1, h2⟩ => ⟨h1, ?_, below_fr h2 _ _⟩
    have : nadd V.nts n = V.nts := by unfold nadd; rw [if_neg hk]
    rw [this]
    exact h.keep h2
set_option maxRecDepth 10000 in
set_option maxHeartbeats 2000000 in
theorem rnote_any (h : RD w0 w B V x) (k r b u sl v : Int) (hl : V.nts.length < 1048576) (hs : Nsteps V.nts x.cnt) :
    Calls Tryz.prog 164 #[.pointer (some ⟨B.wb, 0, none⟩), .int .i64 k, .int .i64 r, .agg #[.int .i64 b, .int .i64 u, .int .i64 sl], .int .i64 v] w fun e w' => e = .returned (.tuple #[]) ∧ RD w0 w' B { V with nts := nadd V.nts ⟨x.cnt, V.hd, k, r, b, u, sl, v⟩ } x ∧ Fr rTy false w w' := by
  have hb := below_alloc w (.cells #[.int .i64 b, .int .i64 u, .int .i64 sl] 71)
  have hz := heap_alloc_new w (.cells #[.int .i64 b, .int .i64 u, .int .i64 sl] 71)
  have h1 := h.keep hb
  have HB := Lib.hid hb; have HZ := Lib.hid hz; have H1 := Lib.hid h1; have HL := Lib.hid hl; have HS := Lib.hid hs
  clear h hb hz h1 hl hs
  go_enter Tryz.func164, Tryz.ntmps164
  go_upto_region 1 with (fail)
  change Code.wp _ _ _ _ (w.alloc (.cells #[.int .i64 b, .int .i64 u, .int .i64 sl] 71))
  generalize w.alloc (.cells #[.int .i64 b, .int .i64 u, .int .i64 sl] 71) = w1 at *
  have HB0 : Hid (Fr rTy false w w1) := below_fr HB.out _ _
  clear HB
  generalize w.heap.size = nq at *
  have x2 : ∀ st : ExtW w1, st.val.cell? ⟨B.wb, 2, none⟩ = some (.pointer (some ⟨B.nb, 0, none⟩)) := fun st => st.cell H1.out.hd5.2.2.1
  have x72 : ∀ st : ExtW w1, st.val.cell? ⟨B.wb, 72, none⟩ = some (.int .i64 V.hd) := fun st => st.cell H1.out.hd5.2.2.2
  have z0 : ∀ st : ExtW w1, st.val.cell? ⟨nq, 0, none⟩ = some (.int .i64 b) := fun st => st.cell (hcell HZ.out 0)
  have z1 : ∀ st : ExtW w1, st.val.cell? ⟨nq, 1, none⟩ = some (.int .i64 u) := fun st => st.cell (hcell HZ.out 1)
  have z2 : ∀ st : ExtW w1, st.val.cell? ⟨nq, 2, none⟩ = some (.int .i64 sl) := fun st => st.cell (hcell HZ.out 2)
  have m1 : ∀ st : ExtW w1, Calls Tryz.prog 68 #[.pointer (some ⟨B.wb, 0, none⟩)] st.val fun e w' => e = .returned (.int .i64 x.cnt) ∧ st.val = w' := fun st => (rwsteps (H1.out.keep st.below)).mono fun e w' ⟨h1, h2⟩ => ⟨h1, h2.symm⟩
  refine wp_region_ext_tail 15 (by kernel_rfl) (by kernel_rfl) ?_
  simp only [List.take_succ_cons, List.take_zero, List.drop_succ_cons, List.drop_zero]
  repeat (go_big_quiet_step ((go_at_call 68; with_reducible refine calls_ext_same (m1 _))))
  refine wpQuiet_nil ?_
  rintro W ⟨⟨W2, hW⟩, rfl⟩
  clear x2 x72 z0 z1 z2 m1
  have hadd := rwladd (H1.out.keep hW) ⟨x.cnt, V.hd, k, r, b, u, sl, v⟩ HL.out HS.out
  have HW := Lib.hid hW
  clear hW
  go_wp2_with (go_at_call 211; refine hadd.mono ?_; intro e w3 hh; obtain ⟨⟨kk, hh1⟩, h3, f3⟩ := hh; subst hh1; have H3 := Lib.hid h3; have F3 := Lib.hid f3; clear h3 f3 hadd)
  go_end0
  exact ⟨rfl, H3.out, (HB0.out.trans (below_fr HW.out _ _)).trans (F3.out.mono rnTy_r id)⟩
end
end Go.Proofs.YtmakjfeepmiggaaGreat
