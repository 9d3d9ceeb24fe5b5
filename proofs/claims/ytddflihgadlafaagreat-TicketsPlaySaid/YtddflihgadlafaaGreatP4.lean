/-
  Texts of this prover, merged: TicketsStepT.
-/
import Derived.Test.YtddflihgadlafaaGreatP3
/-
  TicketsPlay: a step of a Take, of both sides.
-/
namespace Go.Proofs.YtddflihgadlafaaGreat
open Go.RowKit Go.Maps
set_option linter.unusedVariables false
section
variable {w0 w : World} {B R : WB} {t pb xb : Nat} {p : PS} {m : Nat}
set_option maxRecDepth 10000 in
set_option maxHeartbeats 4000000 in
theorem ostep_take {k : Int} {d : Bool} {ln : Nat} (hp : PSok p m) (hm : m + 1 ≤ 90000) (ht : t < 64) (hln : ln ≤ 2) (h : Pr w0 w B R p.V p.s p.x) (hP : OpP w w0.heap.size t pb (.take k d ln)) (hR : OpR w w0.heap.size t xb (.take k d ln)) :
    Calls Tryz.prog 23 #[.agg #[.pointer (some ⟨pb, 0, none⟩), .pointer none, .pointer (some ⟨xb, 0, none⟩), .pointer none], .agg #[.pointer (some ⟨B.wb, 0, none⟩), .pointer (some ⟨R.wb, 0, none⟩)]] w (StepPost w0 w B R t pb xb p (.take k d ln)) := by
  obtain ⟨w1, hw1⟩ : ∃ w1, w1 = (w.alloc (.cells #[.pointer (some ⟨pb, 0, none⟩), .pointer none, .pointer (some ⟨xb, 0, none⟩), .pointer none] 63)).alloc (.cells #[.pointer (some ⟨B.wb, 0, none⟩), .pointer (some ⟨R.wb, 0, none⟩)] 34) := ⟨_, rfl⟩
  have hb : Below w.heap.size w w1 := by rw [hw1]; exact (below_alloc w _).trans ((below_alloc _ _).mono (below_alloc w _).size)
  have z : w1.heap[w.heap.size]? = some (.cells #[.pointer (some ⟨pb, 0, none⟩), .pointer none, .pointer (some ⟨xb, 0, none⟩), .pointer none] 63 (0, 0)) := by rw [hw1]; exact heap_alloc_old (heap_alloc_new w _)
  have z2 : w1.heap[w.heap.size + 1]? = some (.cells #[.pointer (some ⟨B.wb, 0, none⟩), .pointer (some ⟨R.wb, 0, none⟩)] 34 (0, 0)) := by rw [hw1]; exact heap_alloc_at _ _ (by simp)
  have hpr1 := h.keep hb
  have hP1 := hP.below hb
  have hR1 := hR.below hb
  have hrs := rtake_step hp (by omega) ht hln hpr1.rd hR1
  obtain ⟨k', d', ln', hnx, hln'⟩ := next_take t p k d ln hln
  have hpost : ∀ e w', StepPost w0 w B R t pb xb p (.take k d ln) e w' ↔ (e = .returned (.bool true) ∧ Pr w0 w' B R ((OpS.take k d ln).next t p).2.V ((OpS.take k d ln).next t p).2.s ((OpS.take k d ln).next t p).2.x ∧ OpP w' w0.heap.size t pb (.take k' d' ln') ∧ OpR w' w0.heap.size t xb (.take k' d' ln') ∧ TwoR pb xb w w') := fun e w' => by unfold StepPost; rw [hnx]
  have hps : ∀ W, WS w0 W B p.V p.s → OpP W w0.heap.size t pb (.take k d ln) → Calls Tryz.prog 84 #[.pointer (some ⟨pb, 0, none⟩), .pointer (some ⟨B.wb, 0, none⟩)] W fun e w' => e = .returned (.bool (decide (ln' = 0))) ∧ WS w0 w' B ((OpS.take k d ln).next t p).2.V ((OpS.take k d ln).next t p).2.s ∧ OpP w' w0.heap.size t pb (.take k' d' ln') ∧ Fx wTy true pb W w' := fun W h1 h2 => by
    have := take_step hp (by omega) ht hln h1 h2
    rw [hnx] at this
    exact this
  rw [hnx] at hrs
  have hok := next_ok (t := t) hp (.take k d ln)
  generalize ((OpS.take k d ln).next t p).2 = p' at *
  have HB := Lib.hid hb; have HZ := Lib.hid z; have HZ2 := Lib.hid z2; have HPR := Lib.hid hpr1; have HP1 := Lib.hid hP1; have HR1 := Lib.hid hR1; have HPS := Lib.hid hps; have HOK := Lib.hid hok; have HPO := Lib.hid hpost; have HLN := Lib.hid hln'
  clear hb h hP hR hpr1 hP1 hR1 hps hok hp hnx hpost hln'
  have key : ∀ e w', (e = .returned (.bool true) ∧ Pr w0 w' B R p'.V p'.s p'.x ∧ OpP w' w0.heap.size t pb (.take k' d' ln') ∧ OpR w' w0.heap.size t xb (.take k' d' ln') ∧ TwoR pb xb w w') → StepPost w0 w B R t pb xb p (.take k d ln) e w' := fun e w' h => (HPO.out e w').2 h
  refine Calls.mono ?_ key
  clear key HPO
  go_enter Tryz.func23, Tryz.ntmps23
  go_upto_region 1 with (fail)
  rw [← hw1]
  clear hw1
  have c2 := hcell z 2
  have c3 := hcell z 3
  have d1 := hcell z2 1
  clear z z2
  go_upto_region 7 with (go_at_call 91; refine hrs.mono ?_; intro e w2 hh; obtain ⟨hh1, h2, o2, f2⟩ := hh; subst hh1; have H2 := Lib.hid h2; have O2 := Lib.hid o2; have F2 := Lib.hid f2; clear h2 o2 f2 hrs c2 c3 d1)
  have hxp : pb ≠ xb := blk_ne HP1.out.1 HR1.out.1 (by decide)
  have hws2 : WS w0 w2 B p.V p.s := ws_beside HPR.out.ws F2.out HR1.out.1 rfl H2.out.below
  have hP2 : OpP w2 w0.heap.size t pb (.take k d ln) := ⟨F2.out.cells _ _ _ _ HP1.out.1 rfl hxp, HP1.out.2⟩
  have hz : w2.heap[w.heap.size]? = some (.cells #[.pointer (some ⟨pb, 0, none⟩), .pointer none, .pointer (some ⟨xb, 0, none⟩), .pointer none] 63 (0, 0)) := F2.out.cells _ _ _ _ HZ.out rfl (blk_ne HZ.out HR1.out.1 (by decide))
  have hz2 : w2.heap[w.heap.size + 1]? = some (.cells #[.pointer (some ⟨B.wb, 0, none⟩), .pointer (some ⟨R.wb, 0, none⟩)] 34 (0, 0)) := F2.out.cells _ _ _ _ HZ2.out rfl (blk_ne HZ2.out HR1.out.1 (by decide))
  have hbd : Below w2.heap.size w2 w2.drew := (Below.refl _ _).drew
  have hst := HPS.out w2.drew (hws2.keep hbd) hP2
  have c0 : w2.drew.cell? ⟨w.heap.size, 0, none⟩ = some (.pointer (some ⟨pb, 0, none⟩)) := hcell (w := w2.drew) hz 0
  have c2 : w2.drew.cell? ⟨w.heap.size, 2, none⟩ = some (.pointer (some ⟨xb, 0, none⟩)) := hcell (w := w2.drew) hz 2
  have e0 : w2.drew.cell? ⟨w.heap.size + 1, 0, none⟩ = some (.pointer (some ⟨B.wb, 0, none⟩)) := hcell (w := w2.drew) hz2 0
  have y0 : w2.drew.cell? ⟨xb, 0, none⟩ = some (.int .i64 ln') := hcell (w := w2.drew) O2.out.1 0
  have HX := Lib.hid hxp; have HP2 := Lib.hid hP2; have HZ3 := Lib.hid hz; have HZ4 := Lib.hid hz2; have HW2 := Lib.hid hws2
  clear hxp hws2 hP2 hz hz2 hbd
  obtain ⟨ov, hov⟩ : ∃ ov, ov = decide (ln' = 0) := ⟨_, rfl⟩
  have hl0 : ((ln' : Int) == 0) = ov := by rw [hov]; by_cases h : ln' = 0 <;> simp [h]
  rw [← hov] at hst
  have HOV := Lib.hid hov
  clear hov
  go_region_with (first
      | (go_at_call 84; refine hst.mono ?_; intro e w3 hh; obtain ⟨hh1, h3, o3, f3⟩ := hh; subst hh1; have hz := f3.cells _ _ _ _ HZ3.out rfl (blk_ne HZ3.out HP2.out.1 (by decide)); have c0 := hcell hz 0; have c1 := hcell hz 1; have c2 := hcell hz 2; have c3 := hcell hz 3; have or3 := f3.cells _ _ _ _ O2.out.1 rfl HX.out.symm; have y0 := hcell or3 0; have hsm := same_take HLN.out o3.1 or3; have H3 := Lib.hid h3; have O3 := Lib.hid o3; have F3 := Lib.hid f3; have OR3 := Lib.hid or3; clear hz h3 o3 f3 or3 hst)
      | (go_at_call 24; refine hsm.mono ?_; rintro e w4 ⟨rfl, b4⟩; have B4 := Lib.hid b4; clear hsm b4 c0 c1 c2 c3 y0))
  all_goals go_wp2
  all_goals go_ret
  all_goals exact ⟨rfl, step_fin HB.out F2.out H2.out HP2.out.1 rfl H3.out F3.out HOK.out.al O3.out ⟨OR3.out, O2.out.2⟩ B4.out⟩
end
end Go.Proofs.YtddflihgadlafaaGreat
