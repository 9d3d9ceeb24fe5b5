import Derived.Test.YtmakjfeepmiggaaGreatB1
import Derived.Test.YtmakjfeepmiggaaGreatB2
import Derived.Deep.AppendLies
namespace Go.Proofs.YtmakjfeepmiggaaGreat
open Go.RowKit
set_option linter.unusedVariables false
theorem own_at {w : World} {base e n : Nat} {v : Value} {xs : List Value} (h : w.ownsRow base e 1 v n xs) (i : Nat) (hi : i < n) : ∃ g cap x, v = .slice (some ⟨g, 0, none⟩) n cap ∧ xs[i]? = some x ∧ w.cell? ⟨g, i, none⟩ = some x ∧ base ≤ g := by
  obtain ⟨h1, ⟨rfl, h0⟩ | ⟨g, cap, cur, rfl, hb, hg, hn, hm, hs, ht⟩⟩ := h
  · omega
  · have hx : i < xs.length := by omega
    refine ⟨g, cap, xs[i], rfl, List.getElem?_eq_getElem hx, ?_, hb⟩
    have e1 : xs[i]? = (cur.toList.take (n * 1))[i]? := by rw [ht]
    rw [List.getElem?_take, if_pos (by omega), List.getElem?_eq_getElem hx] at e1
    unfold World.cell?; simp only; rw [hg]
    simpa using e1.symm
end Go.Proofs.YtmakjfeepmiggaaGreat
namespace Go.Proofs.YtmakjfeepmiggaaGreat
open Go.RowKit
set_option linter.unusedVariables false
theorem own_sl2 {w : World} {base e size n : Nat} {v : Value} {xs : List Value} (h : w.ownsRow base e size v n xs) : ∃ a cap, v = .slice a n cap := by
  obtain ⟨-, ⟨rfl, rfl⟩ | ⟨g, cap, cur, rfl, -⟩⟩ := h
  · exact ⟨none, 0, rfl⟩
  · exact ⟨_, cap, rfl⟩
theorem grown_ty {w w' : World} {base e size n : Nat} {v : Value} {xs : List Value} (h : w.ownsRow base e size v n xs) (hg : w.grownBy w' v.ownBlock) : Fr (fun T => T == e) false w w' := by
  obtain ⟨-, ⟨rfl, -⟩ | ⟨g, cap, cur, rfl, -, hb, -⟩⟩ := h
  · exact ⟨hg.size, fun k cs T fr hk _ => (hg.block k (Array.getElem?_eq_some_iff.1 hk).1 (fun c => by simp [Value.ownBlock] at c)).trans hk, fun _ k es cl hk => (hg.block k (Array.getElem?_eq_some_iff.1 hk).1 (fun c => by simp [Value.ownBlock] at c)).trans hk⟩
  · refine ⟨hg.size, fun k cs T fr hk hT => (hg.block k (Array.getElem?_eq_some_iff.1 hk).1 (fun c => ?_)).trans hk, fun _ k es cl hk => (hg.block k (Array.getElem?_eq_some_iff.1 hk).1 (fun c => ?_)).trans hk⟩
    · simp only [Value.ownBlock, Option.some.injEq] at c
      subst c
      have := hb.symm.trans hk; simp only [Option.some.injEq, Obj.cells.injEq] at this
      rw [this.2.1] at hT; simp at hT
    · simp only [Value.ownBlock, Option.some.injEq] at c
      subst c
      have := hb.symm.trans hk; cases this
theorem grown_below {w0 w w' : World} {B : Nat} {base e size n : Nat} {v : Value} {xs : List Value} (h : w.ownsRow base e size v n xs) (hg : w.grownBy w' v.ownBlock) (hB : Below B w0 w) (hs : B ≤ w.heap.size) (hb : B ≤ base) : Below B w0 w' :=
  hB.grown hg hs fun k hk => by
    obtain ⟨-, ⟨rfl, -⟩ | ⟨g, cap, cur, rfl, hb2, -⟩⟩ := h
    · simp [Value.ownBlock] at hk
    · simp only [Value.ownBlock, Option.some.injEq] at hk; omega
theorem set_ty {w : World} {q T : Nat} {cs : Array Value} (h : w.heap[q]? = some (.cells cs T (0, 0))) (o : Nat) (v : Value) : Fr (fun X => X == T) false w (w.setCell ⟨q, o, none⟩ v) :=
  keeps_fr (setCell_keeps w q o v) _ _ fun k e => ⟨_, _, _, e ▸ h, by simp⟩
theorem set_below {w0 w : World} {B q : Nat} (hB : Below B w0 w) (hs : B ≤ w.heap.size) (hq : B ≤ q) (o : Nat) (v : Value) : Below B w0 (w.setCell ⟨q, o, none⟩ v) :=
  keeps_below (setCell_keeps w q o v) hB hs fun k e => e ▸ hq
end Go.Proofs.YtmakjfeepmiggaaGreat
namespace Go.Proofs.YtmakjfeepmiggaaGreat
open Go.RowKit Go.Maps
set_option linter.unusedVariables false
def RS.room (x : RS) : Prop := x.l.length ≤ 100000 ∧ x.cnt ≤ 1000000
theorem RD.lv {w0 w : World} {B : WB} {V : WV} {x : RS} (h : RD w0 w B V x) : w0.heap.size ≤ w.heap.size := h.below.size
theorem RD.c0 {w0 w : World} {B : WB} {V : WV} {x : RS} (h : RD w0 w B V x) : w.cell? ⟨B.wb, 0, none⟩ = some (.pointer (some ⟨B.cb, 0, none⟩)) := (h.cell 0).trans (val_at B V h.tkl).1
section
variable {w0 w : World} {B : WB} {V : WV} {x : RS} (h : RD w0 w B V x) (hr : x.room) (a : Int) (ha : (Lit.int .u64 a).wf = true)
include h hr ha
theorem rwload : Calls Tryz.prog 55 #[.pointer (some ⟨B.wb, 0, none⟩), .int .u64 a] w fun e w' => e = .returned (.int .u64 (rlook x.l a)) ∧ RD w0 w' B V (x.acc 1 a (rlook x.l a)) ∧ Fr rTy false w w' := by
  have c0 := h.c0
  obtain ⟨lv, hq⟩ := h.ref
  have hc := rload_any hq hr.1 hr.2 h.lv a ha
  have H := Lib.hid h
  clear h hq hr ha
  go_enter Tryz.func55, Tryz.ntmps55
  go_wp2_with (go_at_call 133; refine hc.mono ?_; rintro e w1 ⟨rfl, r1, k1⟩)
  go_ret
  exact ⟨rfl, H.out.acc r1 k1⟩
theorem rwstore (v : Int) (hv : (Lit.int .u64 v).wf = true) : Calls Tryz.prog 54 #[.pointer (some ⟨B.wb, 0, none⟩), .int .u64 a, .int .u64 v] w fun e w' => e = .returned (.int .u64 (rlook x.l a)) ∧ RD w0 w' B V (x.acc 2 a v) ∧ Fr rTy false w w' := by
  have c0 := h.c0
  obtain ⟨lv, hq⟩ := h.ref
  have hc := rstore_any hq hr.1 hr.2 h.lv a ha v hv
  have H := Lib.hid h
  clear h hq hr ha hv
  go_enter Tryz.func54, Tryz.ntmps54
  go_wp2_with (go_at_call 132; refine hc.mono ?_; rintro e w1 ⟨rfl, r1, k1⟩)
  go_ret
  exact ⟨rfl, H.out.acc r1 k1⟩
theorem rwadd (v : Int) : Calls Tryz.prog 216 #[.pointer (some ⟨B.wb, 0, none⟩), .int .u64 a, .int .u64 v] w fun e w' => e = .returned (.int .u64 (rlook x.l a)) ∧ RD w0 w' B V (x.acc 4 a (wu (rlook x.l a + v))) ∧ Fr rTy false w w' := by
  have c0 := h.c0
  obtain ⟨lv, hq⟩ := h.ref
  have hc := radd_any hq hr.1 hr.2 h.lv a ha v
  have H := Lib.hid h
  clear h hq hr ha
  go_enter Tryz.func216, Tryz.ntmps216
  go_wp2_with (go_at_call 229; refine hc.mono ?_; rintro e w1 ⟨rfl, r1, k1⟩)
  go_ret
  exact ⟨rfl, H.out.acc r1 k1⟩
theorem rwcas (u v : Int) (hv : (Lit.int .u64 v).wf = true) : Calls Tryz.prog 161 #[.pointer (some ⟨B.wb, 0, none⟩), .int .u64 a, .int .u64 u, .int .u64 v] w fun e w' => e = .returned (.tuple #[.int .u64 (rlook x.l a), .bool (rlook x.l a == u)]) ∧
    RD w0 w' B V (x.acc 3 a (if rlook x.l a = u then v else rlook x.l a)) ∧ Fr rTy false w w' := by
  have c0 := h.c0
  obtain ⟨lv, hq⟩ := h.ref
  have hc := rcas_any hq hr.1 hr.2 h.lv a ha u v hv
  have H := Lib.hid h
  clear h hq hr ha hv
  generalize (if rlook x.l a = u then v else rlook x.l a) = i at hc ⊢
  go_enter Tryz.func161, Tryz.ntmps161
  go_wp2_with (go_at_call 205; refine hc.mono ?_; rintro e w1 ⟨rfl, r1, k1⟩)
  go_ret2
  exact ⟨rfl, H.out.acc r1 k1⟩
omit hr ha in
theorem rwpeek : Calls Tryz.prog 130 #[.pointer (some ⟨B.wb, 0, none⟩), .int .u64 a] w fun e w' => e = .returned (.int .u64 (rlook x.l a)) ∧ w' = w := by
  have c0 := h.c0
  obtain ⟨lv, hq⟩ := h.ref
  have hc := rpeek_any w _ _ _ _ hq a
  clear h hq
  go_enter Tryz.func130, Tryz.ntmps130
  go_wp2_with (go_at_call 180; refine hc.mono ?_; rintro e w1 ⟨rfl, rfl⟩)
  go_ret
  exact ⟨rfl, rfl⟩
omit hr ha in
theorem rwsteps : Calls Tryz.prog 68 #[.pointer (some ⟨B.wb, 0, none⟩)] w fun e w' => e = .returned (.int .i64 x.cnt) ∧ w' = w := by
  have c0 := h.c0
  obtain ⟨lv, hq⟩ := h.ref
  have c1 : w.cell? ⟨B.cb, 1, none⟩ = some (.int .i64 x.cnt) := hq.cell 1
  clear h hq
  go_enter Tryz.func68, Tryz.ntmps68
  go_wp2
  go_ret
  exact ⟨rfl, rfl⟩
end
theorem rtick_any (y : Int) (hy : (Lit.int .u64 y).wf = true) (w : World) : Calls Tryz.prog 162 #[.int .u64 y] w fun e w' => e = .returned (.int .u64 (eTick y)) ∧ w' = w := by
  have hb : 0 ≤ y ∧ y < 18446744073709551616 := by
    have hmin : IntKind.u64.min = 0 := rfl
    have hmax : IntKind.u64.max = 18446744073709551615 := rfl
    simp only [Lit.wf, Bool.and_eq_true, decide_eq_true_eq] at hy; omega
  have b0 : 0 ≤ eNow y ∧ eNow y < 16777216 := by unfold eNow; omega
  have b1 : 0 ≤ eAt y ∧ eAt y < 16777216 := by unfold eAt; omega
  have b2 : 0 ≤ eGen y ∧ eGen y < 65536 := by unfold eGen; omega
  have g0 : y / 16777216 / 16777216 = eGen y := by unfold eGen; omega
  have h1 : ∀ w, Calls Tryz.prog 206 #[.int .u64 y] w fun e w' => e = .returned (.int .i64 (eNow y)) ∧ w' = w := fun w => by
    have e0 : y % 16777216 = eNow y := rfl
    have e1 : wrap64 (eNow y) = eNow y := IntWalk.wrap64_in _ (by omega)
    generalize eNow y = n at *
    clear g0 b1 b2
    go_enter Tryz.func206, Tryz.ntmps206
    go_wp2
    go_ret
    exact ⟨rfl, rfl⟩
  have h2 : ∀ w, Calls Tryz.prog 207 #[.int .u64 y] w fun e w' => e = .returned (.int .i64 (eAt y)) ∧ w' = w := fun w => by
    have e0 : y / 16777216 % 16777216 = eAt y := rfl
    have e1 : wrap64 (eAt y) = eAt y := IntWalk.wrap64_in _ (by omega)
    generalize eAt y = n at *
    clear g0 b0 b2 h1
    go_enter Tryz.func207, Tryz.ntmps207
    go_wp2
    go_ret
    exact ⟨rfl, rfl⟩
  have h3 : ∀ w, Calls Tryz.prog 208 #[.int .u64 y] w fun e w' => e = .returned (.int .i64 (eGen y)) ∧ w' = w := fun w => by
    have e1 : wrap64 (eGen y) = eGen y := IntWalk.wrap64_in _ (by omega)
    generalize eGen y = n at *
    clear b0 b1 h1 h2
    go_enter Tryz.func208, Tryz.ntmps208
    go_wp2
    go_ret
    exact ⟨rfl, rfl⟩
  have h4 : ∀ n a g, (0 ≤ n ∧ n < 16777216) → (0 ≤ a ∧ a < 16777216) → (0 ≤ g ∧ g < 65536) → ∀ w, Calls Tryz.prog 209 #[.int .i64 n, .int .i64 a, .int .i64 g] w fun e w' => e = .returned (.int .u64 (eWord n a g)) ∧ w' = w := fun n a g hn ha hg w => by
    have e1 : (g * 16777216 + a) * 16777216 + n = eWord n a g := by unfold eWord; omega
    go_enter Tryz.func209, Tryz.ntmps209
    go_wp2
    go_ret
    exact ⟨ret_u64 (by rw [← e1]; omega), rfl⟩
  unfold eTick eNext
  clear hy g0 hb
  generalize eNow y = n at *
  generalize eAt y = a at *
  generalize eGen y = g at *
  go_enter Tryz.func162, Tryz.ntmps162
  go_wp2_with (first
    | (go_at_call 206; refine (h1 _).mono ?_; rintro e w' ⟨rfl, rfl⟩)
    | (go_at_call 207; refine (h2 _).mono ?_; rintro e w' ⟨rfl, rfl⟩)
    | (go_at_call 208; refine (h3 _).mono ?_; rintro e w' ⟨rfl, rfl⟩)
    | (go_at_call 209; refine (h4 _ _ _ (by omega) (by omega) (by omega) _).mono ?_; rintro e w' ⟨rfl, rfl⟩))
  all_goals go_ret
  all_goals (refine ⟨ret_u64 ?_, rfl⟩)
  all_goals (repeat' (split))
  all_goals (first | rfl | (exfalso; omega) | (unfold eWord; omega))
theorem rwtick {w0 w : World} {B : WB} {V : WV} {x : RS} (h : RD w0 w B V x) (hr : x.room) : Calls Tryz.prog 102 #[.pointer (some ⟨B.wb, 0, none⟩)] w fun e w' => e = .returned (.tuple #[]) ∧ RD w0 w' B V (x.acc 3 8 (eTick (rlook x.l 8))) ∧ Fr rTy false w w' := by
  have hv : (Lit.int .u64 (rlook x.l 8)).wf = true := by obtain ⟨lv, hq⟩ := h.ref; exact rlook_wf hq 8
  have hp := rwpeek h 8
  have ht := rtick_any _ hv
  have hc := rwcas h hr 8 (by decide) (rlook x.l 8) (eTick (rlook x.l 8)) (etick_wf _)
  rw [if_pos rfl] at hc
  clear h hr hv
  generalize rlook x.l 8 = y at *
  go_enter Tryz.func102, Tryz.ntmps102
  go_wp2_with (first
    | (go_at_call 130; refine hp.mono ?_; rintro e w1 ⟨rfl, hw⟩; obtain rfl := hw.symm; clear hp)
    | (go_at_call 162; refine (ht _).mono ?_; rintro e w1 ⟨rfl, hw⟩; obtain rfl := hw.symm; clear ht)
    | (go_at_call 161; refine hc.mono ?_; rintro e w2 ⟨rfl, h2, f2⟩))
  go_end0
  exact ⟨rfl, h2, f2⟩
end Go.Proofs.YtmakjfeepmiggaaGreat
namespace Go.Proofs.YtmakjfeepmiggaaGreat
open Go.RowKit
set_option linter.unusedVariables false
section
variable {P : Program} {ops : Array Oper} {md : Region.Mode} {C : World → Prop}
def sinkK (md : Region.Mode) (ops : Array Oper) (k n : Nat) : Bool := (List.range n).all fun i => decide (i < k) || (List.range (n + 1)).any fun j => decide (i < j) && Region.waitsFor md ops j i
def lateB (md : Region.Mode) (ops : Array Oper) (n : Nat) : Bool :=
  (List.range ops.size).all fun t => decide (t ≤ n) || (match ops[t]? with | some o => o.after.any fun e => Region.binds md e && decide (n ≤ e.on) | none => true)
structure SegInv (md : Region.Mode) (ops : Array Oper) (k n : Nat) (seen : Array Bool) : Prop where
  inv : HeadInv md ops n seen
  head : ∀ i, i < k → seen.getD i false = true
theorem SegInv.set {k n i : Nat} {seen : Array Bool} (h : SegInv md ops k n seen) (hi : i ∈ Region.ready md ops seen) (hin : i < n) : SegInv md ops k n (seen.setIfInBounds i true) := by
  refine ⟨h.inv.set hi hin, fun j hj => ?_⟩
  by_cases hij : i = j
  · subst hij
    have := (mem_ready.1 hi).1
    have := h.head i hj
    have hs : i < seen.size := by
      rcases Nat.lt_or_ge i seen.size with c | c
      · exact c
      · simp [Array.getElem?_eq_none c] at this
    simp [hs]
  · rw [getD_set_ne false hij]; exact h.head j hj
theorem seg_waits {k n : Nat} {seen : Array Bool} (hs : sinkK md ops k n = true) (hl : lateB md ops n = true) (hn : n < ops.size) (inv : SegInv md ops k n seen) :
    ∀ (d i : Nat), n - i = d → i < n → seen.getD i true = false → ∀ t, n ≤ t → t ∉ Region.ready md ops seen := by
  intro d
  induction d using Nat.strongRecOn with
  | _ d ih =>
    intro i hd hi hun t ht hr
    obtain ⟨_, ot, hot, hall⟩ := mem_ready.1 hr
    have htlt : t < ops.size := (Array.getElem?_eq_some_iff.1 hot).1
    by_cases htn : t = n
    · subst htn
      have h1 := List.all_eq_true.1 hs i (List.mem_range.2 hi)
      simp only [Bool.or_eq_true, decide_eq_true_eq] at h1
      rcases h1 with h1 | h1
      · have := inv.head i h1
        rw [getD_both hun] at this; cases this
      obtain ⟨j, hj, hj2⟩ := List.any_eq_true.1 h1
      simp only [Bool.and_eq_true, decide_eq_true_eq] at hj2
      obtain ⟨oj, hoj, e, he, hb, hon⟩ := Region.waitsFor_spec hj2.2
      have hjle : j ≤ t := by have := List.mem_range.1 hj; omega
      by_cases hjt : j = t
      · subst hjt
        have : oj = ot := Option.some.inj (hoj.symm.trans hot)
        subst this
        have h2 := hall e he hb
        rw [hon, getD_both hun] at h2
        cases h2
      · cases hl : seen.getD j false with
        | true =>
          have h2 := inv.inv.closed j oj hoj hl e he hb
          rw [hon, getD_both hun] at h2
          cases h2
        | false =>
          have hjs : j < seen.size := by rw [inv.inv.size]; omega
          exact ih (t - j) (by omega) j rfl (by omega) (getD_in hjs hl) t (Nat.le_refl _) hr
    · have h1 := List.all_eq_true.1 hl t (List.mem_range.2 htlt)
      simp only [Bool.or_eq_true, decide_eq_true_eq, hot] at h1
      rcases h1 with h1 | h1
      · omega
      obtain ⟨e, he, hb⟩ := Array.any_eq_true'.1 h1
      simp only [Bool.and_eq_true, decide_eq_true_eq] at hb
      have h2 := hall e he hb.1
      rcases Nat.lt_or_ge e.on ops.size with c | c
      · have := inv.inv.tail e.on hb.2 c
        rw [getD_both this] at h2; cases h2
      · have : seen.size ≤ e.on := by rw [inv.inv.size]; exact c
        simp [Array.getElem?_eq_none this] at h2
theorem headK_take {k n i : Nat} {oi : Oper} {v : Value} {L : Array Bool → Act → Prop} (hi : ops[i]? = some oi) (hsel : ∀ (j : Nat) (o : Oper) cs b, ops[j]? = some o → o.op ≠ .select cs b)
    (hs : sinkK md ops k n = true) (hl : lateB md ops n = true) (hn : n < ops.size) (hin : i < n) (hdone : ∀ seen a, L seen a → ∀ j, j ∈ Region.ready md ops seen → n ≤ j) (f : Nat) :
    ∀ (seen : Array Bool) (a : Act), SegInv md ops k n seen →
      (∀ j oj, ops[j]? = some oj → j ≠ i → seen.getD j true = false → (∀ e, e ∈ oj.after → Region.binds md e = true → e.on ≠ i) → oi.apart ops oj = true) →
      i ∈ Region.ready md ops seen → YieldsIn P ops C oi v a → HeadQ P md ops C n L f (seen.setIfInBounds i true) (a.put oi.dst v) → HeadQ P md ops C n L (f + 1) seen a := by
  induction f with
  | zero =>
    intro seen a inv _ hr hy H
    have hun : seen.getD i true = false := (mem_ready.1 hr).1
    refine ⟨fun h => by rw [h] at hr; exact absurd hr (by simp), fun j hj => ?_⟩
    by_cases hjn : n ≤ j
    · exact absurd hj (seg_waits hs hl hn inv _ i rfl hin hun j hjn)
    refine ⟨by omega, ?_⟩
    by_cases hji : j = i
    · rw [hji]; exact hy.qOp hi H
    · exact absurd (hdone _ _ H j (ready_mono hj hji)) hjn
  | succ f ih =>
    intro seen a inv hfree hr hy H
    have hun : seen.getD i true = false := (mem_ready.1 hr).1
    refine ⟨fun h => by rw [h] at hr; exact absurd hr (by simp), fun j hj => ?_⟩
    by_cases hjn : n ≤ j
    · exact absurd hj (seg_waits hs hl hn inv _ i rfl hin hun j hjn)
    refine ⟨by omega, ?_⟩
    by_cases hji : j = i
    · rw [hji]; exact hy.qOp hi H
    obtain ⟨hjun, oj, hoj, hall⟩ := mem_ready.1 hj
    have hno : ∀ e, e ∈ oj.after → Region.binds md e = true → e.on ≠ i := by
      intro e he hb heq
      have := hall e he hb
      rw [heq, getD_both hun] at this
      exact absurd this (by simp)
    have step := qOp_put hoj (hfree j oj hoj hji hjun hno) (fun cs b => hsel i oi cs b hi) (fun cs b => hsel j oj cs b hoj) hy (H.2 j (ready_mono hj hji)).2
    refine qOp_mono (fun a' h3 => ?_) step
    refine ih _ a' (inv.set hj (by omega)) ?_ (ready_mono hr (Ne.symm hji)) h3.1 ?_
    · intro k ok hk hki hunk hnok
      refine hfree k ok hk hki ?_ hnok
      by_cases hjk : j = k
      · rw [← hjk]; exact hjun
      · rwa [getD_set_ne true hjk] at hunk
    · rw [Array.setIfInBounds_comm _ _ hji]; exact h3.2
def lexF (md : Region.Mode) (ops : Array Oper) (F : Array Bool → Bool) : Nat → Nat → Array Bool → Bool
  | 0, _, seen => F seen
  | f + 1, k, seen => (Region.ready md ops seen).contains k && Region.free md ops seen k && lexF md ops F f (k + 1) (seen.setIfInBounds k true)
theorem headK_lex {k0 n : Nat} {R : Act → Prop} {F : Array Bool → Bool} (hsel : Region.noSelect ops = true) (hs : sinkK md ops k0 n = true) (hlt : lateB md ops n = true) (hn : n < ops.size)
    (hF : ∀ seen, F seen = true → ∀ j, j ∈ Region.ready md ops seen → n ≤ j) (l : List Oper) :
    ∀ (k : Nat) (seen : Array Bool) (a : Act), (∀ j, j < l.length → l[j]? = ops[k + j]?) → k + l.length = n → SegInv md ops k0 n seen →
      lexF md ops F l.length k seen = true → wpQuiet P ops C R l a → HeadQ P md ops C n (fun seen' a' => SegInv md ops k0 n seen' ∧ F seen' = true ∧ R a') l.length seen a := by
  induction l with
  | nil =>
    intro k seen a _ hk inv hB h
    exact ⟨inv, hB, h⟩
  | cons o l ih =>
    intro k seen a hl hk inv hB h
    have h0 : ops[k]? = some o := by simpa using (hl 0 (by simp)).symm
    simp only [List.length_cons, lexF, Bool.and_eq_true] at hB
    obtain ⟨⟨hr, hf⟩, hB'⟩ := hB
    have hkn : k < n := by simp only [List.length_cons] at hk; omega
    have hr' : k ∈ Region.ready md ops seen := by simpa using hr
    have hq : qOp P ops C k (wpQuiet P ops C R l) a := by unfold qOp; simp only [h0]; exact h
    obtain ⟨v, hy, hK⟩ := yieldsIn_of_qOp h0 hq
    refine headK_take h0 (Region.noSelect_spec hsel) hs hlt hn hkn (fun seen' a' hL => hF seen' hL.2.1) l.length seen a inv (Region.free_spec h0 hf) hr' hy ?_
    refine ih (k + 1) _ _ (fun j hj => ?_) (by simp only [List.length_cons] at hk; omega) (inv.set hr' hkn) hB' hK
    have := hl (j + 1) (by simp; omega)
    simpa [Nat.add_assoc, Nat.add_comm 1 j] using this
abbrev ExtC (w : World) : World → Prop := fun W => ∃ s : ExtW w, W = s.val
def segB (md : Region.Mode) (ops : Array Oper) : List Nat → Nat → Array Bool → Bool
  | [], k, seen => Region.lexFrom md ops (ops.size - k) k seen
  | n :: ns, k, seen => decide (k ≤ n) && decide (n < ops.size) && sinkK md ops k n && lateB md ops n &&
      lexF md ops (fun s => decide (Region.ready md ops s = [n]) && (List.range n).all (fun i => s.getD i false) && segB md ops ns (n + 1) (s.setIfInBounds n true)) (n - k) k seen
def Segs (P : Program) (ops : Array Oper) (Q : Exit → Act → World → Prop) : List Nat → Nat → List Oper → Act → World → Prop
  | [], _, l, a, w => wpQuiet P ops (ExtC w) (fun a' => ∀ W, ExtC w W → Q .normal a' W) l a
  | n :: ns, k, l, a, w => wpQuiet P ops (ExtC w) (fun a' => ∀ W, ExtC w W → Go.wpOp P ops Q n (fun a2 w2 => Segs P ops Q ns (n + 1) (l.drop (n + 1 - k)) a2 w2) a' W) (l.take (n - k)) a
theorem any_of_segs {Q : Exit → Act → World → Prop} (hsel : Region.noSelect ops = true) : ∀ (ns : List Nat) (k : Nat) (l : List Oper) (seen : Array Bool) (a : Act) (w w1 : World), (∀ j, l[j]? = ops[k + j]?) → k + l.length = ops.size →
    (∀ n, k ≤ n → SegInv md ops k n seen) → segB md ops ns k seen = true → ExtC w w1 → Segs P ops Q ns k l a w → wpAny P md ops Q l.length seen a w1
  | [], k, l, seen, a, w, w1, hl, hk, inv, hB, hC, h => by
    simp only [segB, show ops.size - k = l.length by omega] at hB
    exact wpAny_of_quiet (Q := fun a' => ∀ W, ExtC w W → Q .normal a' W) (fun _ w' hw' h => h w' hw') _ _ _ _ hC (wpAnyQ_lex hsel l k seen a hl hB h)
  | n :: ns, k, l, seen, a, w, w1, hl, hk, inv, hB, hC, h => by
    simp only [segB, Bool.and_eq_true, decide_eq_true_eq] at hB
    obtain ⟨⟨⟨⟨hkn, hn⟩, hs⟩, hlt⟩, hB⟩ := hB
    have htl : (l.take (n - k)).length = n - k := by simp; omega
    have hh := headK_lex (P := P) (C := ExtC w) (R := fun a' => ∀ W, ExtC w W → Go.wpOp P ops Q n (fun a2 w2 => Segs P ops Q ns (n + 1) (l.drop (n + 1 - k)) a2 w2) a' W) hsel hs hlt hn (F := fun s => decide (Region.ready md ops s = [n]) && (List.range n).all (fun i => s.getD i false) && segB md ops ns (n + 1) (s.setIfInBounds n true))
      (fun s hF j hj => by
        simp only [Bool.and_eq_true, decide_eq_true_eq] at hF
        rw [hF.1.1] at hj
        have : j = n := by simpa using hj
        omega) (l.take (n - k)) k seen a (fun j hj => by rw [htl] at hj; rw [List.getElem?_take_of_lt hj]; exact hl j) (by rw [htl]; omega) (inv n hkn) (by rw [htl]; exact hB) h
    rw [htl] at hh
    have := any_of_headQ (Q := Q) (g := l.length - (n - k)) (fun seen' a' W hW hL => ?_) _ _ _ _ hC hh
    · rw [show n - k + (l.length - (n - k)) = l.length by omega] at this
      exact this
    · obtain ⟨inv', hF, hR⟩ := hL
      simp only [Bool.and_eq_true, decide_eq_true_eq] at hF
      obtain ⟨⟨hr, hall⟩, hsB⟩ := hF
      rw [show l.length - (n - k) = (l.length - (n - k) - 1) + 1 by omega]
      refine ⟨fun h0 => (by rw [hr] at h0; cases h0), fun i hi => ?_⟩
      have hin : i = n := by rw [hr] at hi; simpa using hi
      subst hin
      refine wpOp_mono (fun a2 w2 h2 => ?_) (hR W hW)
      have hlen : (l.drop (i + 1 - k)).length = l.length - (i - k) - 1 := by simp; omega
      have := any_of_segs hsel ns (i + 1) (l.drop (i + 1 - k)) (seen'.setIfInBounds i true) a2 w2 w2 (fun j => by rw [List.getElem?_drop, hl]; congr 1; omega) (by rw [hlen]; omega) (fun m hm => ?_) hsB ⟨⟨w2, Below.refl _ _⟩, rfl⟩ h2
      · rw [hlen] at this; exact this
      · have hsz : i < seen'.size := by rw [inv'.inv.size]; exact hn
        refine ⟨⟨by simp [inv'.inv.size], fun j oj hj hlj e he hb => ?_, fun t ht ht2 => by rw [getD_set_ne true (by omega)]; exact inv'.inv.tail t (by omega) ht2⟩, fun j hj => ?_⟩
        · by_cases hij : i = j
          · subst hij
            obtain ⟨_, oi, hoi, hall2⟩ := mem_ready.1 hi
            have : oj = oi := Option.some.inj (hj.symm.trans hoi)
            subst this
            have h3 := hall2 e he hb
            by_cases hie : i = e.on
            · rw [← hie]; simp [hsz]
            · rw [getD_set_ne false hie]; exact h3
          · rw [getD_set_ne false hij] at hlj
            have h3 := inv'.inv.closed j oj hj hlj e he hb
            by_cases hie : i = e.on
            · rw [← hie]; simp [hsz]
            · rw [getD_set_ne false hie]; exact h3
        · by_cases hij : i = j
          · subst hij; simp [hsz]
          · rw [getD_set_ne false hij]
            exact List.all_eq_true.1 hall j (List.mem_range.2 (by omega))
theorem wp_region_segs {id : Nat} {Q : Exit → Act → World → Prop} {a : Act} {w : World} {l : List Oper} (ns : List Nat) (hm : P.follows .mixedOrders = true) (hsel : Region.noSelect l.toArray = true) (hB : segB .any l.toArray ns 0 (Array.replicate l.toArray.size false) = true)
    (h : Segs P l.toArray Q ns 0 l a w) : (Code.region id l.toArray true).wp P Q a w := by
  refine wp_region_any hm ?_
  have := any_of_segs (P := P) (md := .any) (Q := Q) hsel ns 0 l (Array.replicate l.toArray.size false) a w w.drew (fun j => by simp) (by simp) (fun n _ => ?_) hB ⟨⟨_, (Below.refl _ _).drew⟩, rfl⟩ h
  · simpa using this
  · exact ⟨⟨by simp, fun j oj _ hl => by rw [getD_replicate_false] at hl; exact absurd hl (by simp), fun t _ ht => getD_in (by simpa using ht) (getD_replicate_false _ _)⟩, fun i hi => by omega⟩
theorem seg_call {Q : Exit → Act → World → Prop} {n : Nat} {K : Act → World → Prop} {o : Oper} {a : Act} {w : World} (hi : ops[n]? = some o) (hw : Region.wanted o (yielded ops a.tmps) = true) (f : FuncId) (args : Array Value) (hrun : (execOp a.eval o).run P w = .ok (.enter f args) w)
    (h : Calls P f args w fun e w' => ∃ v, e = .returned v ∧ K (a.put o.dst v) w') : Go.wpOp P ops Q n K a w := by
  unfold Go.wpOp
  simp only [hi]
  rw [if_pos hw]
  left
  unfold Oper.wp
  rw [hrun]
  simp only [Oper.upon]
  refine h.mono fun e w' ⟨v, he, ht⟩ => ?_
  subst he
  exact ht
end
end Go.Proofs.YtmakjfeepmiggaaGreat