/-
  Texts of this prover, merged: WriterStep, LooksQuiet.
-/
import Derived.Test.YtdbgfidnccpmdaaGreatLB
/-
  Law 14's writer: its step.
-/
namespace Go.Proofs.YtdbgfidnccpmdaaGreat
open Go.RowKit Go.Maps TagPure
set_option linter.unusedVariables false

abbrev TSpw (ps : Nat) (x y k : Int) (W : World) : Prop := W.cell? ⟨ps, 0, none⟩ = some (.int .i64 x) ∧ W.cell? ⟨ps, 1, none⟩ = some (.int .i64 y) ∧ W.cell? ⟨ps, 2, none⟩ = some (.int .i64 k)
def lenOf : Option Value → Nat
  | some (.slice _ n _) => n
  | _ => 0
def noneOf : Option Value → Nat
  | some (.slice _ 0 _) => 1
  | _ => 0
def wmsr (xb : Nat) (w : World) : Nat := lenOf (w.cell? ⟨xb, 0, none⟩) + noneOf (w.cell? ⟨xb, 1, none⟩)
theorem wmsr_lt {w0 w W : World} {B : WB} {V : WV} {s : CS} {S : List Nat} {xb : Nat} {r : List Chg} {qs : List (Nat × Dg)} (h : WMB w0 w W B V s S xb r qs) : wmsr xb W < r.length + 2 := by
  obtain ⟨a, c, vd, b1, -, -⟩ := h.wr.ex
  unfold wmsr
  rw [show W.cell? ⟨xb, 0, none⟩ = some (.slice a r.length c) from hcell b1 0]
  have : noneOf (W.cell? ⟨xb, 1, none⟩) ≤ 1 := by unfold noneOf; split <;> omega
  show r.length + _ < _
  omega
def WSPost (w0 w : World) (B : WB) (V : WV) (S : List Nat) (xb : Nat) (r : Bool × CS × List Chg × List Dg) (e : Ending) (W' : World) : Prop :=
  ∃ qs', e = .returned (.bool r.1) ∧ WMB w0 w W' B V r.2.1 S xb r.2.2.1 qs' ∧ qs'.map Prod.snd = r.2.2.2
section
variable {w0 w W W' : World} {B : WB} {V : WV} {s : CS} {S : List Nat} {xb : Nat} {left : List Chg} {qs : List (Nat × Dg)}
theorem WMB.frz (h : WMB w0 w W B V s S xb left qs) : W.frozen? ⟨xb, 1, none⟩ = false := by
  obtain ⟨a, c, vd, b1, -, -⟩ := h.wr.ex
  exact hfrz b1 1
theorem WMB.c1 (h : WMB w0 w W B V s S xb left qs) : ∃ u, W.cell? ⟨xb, 1, none⟩ = some u := by
  obtain ⟨a, c, vd, b1, -, -⟩ := h.wr.ex
  exact ⟨_, hcell b1 1⟩
theorem wr_c1 (h : WMB w0 w W B V s S xb left qs) : ∃ u, ∀ ob, (W.alloc ob).cell? ⟨xb, 1, none⟩ = some u := by
  obtain ⟨u, hu⟩ := h.c1
  exact ⟨u, fun ob => ((below_alloc W ob).cell (World.block_lt_of_cell? _ _ hu)).trans hu⟩
theorem wr_spot {ps : Nat} {x y k : Int} (h : WMB w0 w W B V s S xb left qs) (_ht : TSpw ps x y k W) (hp : W.heap[ps]? = some (.cells #[.int .i64 x, .int .i64 y, .int .i64 k] 43 (0, 0))) (v : Value) : TSpw ps x y k (W.setCell ⟨xb, 1, none⟩ v) := by
  obtain ⟨a, c, vd, b1, -, -⟩ := h.wr.ex
  have hne : ps ≠ xb := fun e => by
    subst e
    rw [hp] at b1
    simp only [Option.some.injEq, Obj.cells.injEq] at b1
    exact absurd b1.2.1 (by decide)
  have g := (Below.heap_setCell W ⟨xb, 1, none⟩ v ps hne).trans hp
  exact ⟨hcell g 0, hcell g 1, hcell g 2⟩
/-- What is to do is there: three at once. -/
theorem WMB.fin {m1 qb m2 : Nat} {l : List (Int × Int)} {dd : Dg} (h : WMB w0 w W B V s S xb left []) (hs0 : w0.heap.size ≤ w.heap.size) (d1 : DgAt W m1 (.mark (vof l))) (d2 : DgAt W qb dd) (hok : dd.ok) (d3 : DgAt W m2 (.mark (vof l))) (q : w.heap.size ≤ qb) (n1 : qb < m1) (n2 : m1 < m2) :
    WMB w0 w ((W.alloc (.cells #[.iface 225 (.pointer (some ⟨m1, 0, none⟩)), .iface dd.ty (.pointer (some ⟨qb, 0, none⟩)), .iface 225 (.pointer (some ⟨m2, 0, none⟩))] 222)).setCell ⟨xb, 1, none⟩ (.slice (some ⟨W.heap.size, 0, none⟩) 3 3)) B V s S xb left [(m1, .mark (vof l)), (qb, dd), (m2, .mark (vof l))] := by
  have hb1 := below_alloc W (.cells #[.iface 225 (.pointer (some ⟨m1, 0, none⟩)), .iface dd.ty (.pointer (some ⟨qb, 0, none⟩)), .iface 225 (.pointer (some ⟨m2, 0, none⟩))] 222)
  have hz := heap_alloc_new W (.cells #[.iface 225 (.pointer (some ⟨m1, 0, none⟩)), .iface dd.ty (.pointer (some ⟨qb, 0, none⟩)), .iface 225 (.pointer (some ⟨m2, 0, none⟩))] 222)
  refine (h.below hb1).setx (v := .slice (some ⟨W.heap.size, 0, none⟩) 3 3) (qs' := [(m1, .mark (vof l)), (qb, dd), (m2, .mark (vof l))]) ?_ ?_ ?_ ?_
  · refine ⟨_, 3, rfl, Nat.le_refl _, by unfold maxLen; decide, .inr ⟨W.heap.size, 0, _, rfl, hz, fun i hi => ?_⟩⟩
    have hi3 : i < 3 := hi
    rcases (show i = 0 ∨ i = 1 ∨ i = 2 by omega) with rfl | rfl | rfl <;> rfl
  · intro y hy
    simp only [List.mem_cons, List.not_mem_nil, or_false] at hy
    rcases hy with rfl | rfl | rfl
    · exact ⟨by show _ ≤ m1; omega, d1.below hb1, vof_wf⟩
    · exact ⟨by show _ ≤ qb; omega, d2.below hb1, hok⟩
    · exact ⟨by show _ ≤ m2; omega, d3.below hb1, vof_wf⟩
  · show [m1, qb, m2].Nodup
    simp only [List.nodup_cons, List.mem_cons, List.not_mem_nil, or_false, not_false_eq_true, List.nodup_nil, and_true]
    omega
  · intro y hy
    simp only [List.mem_cons, List.not_mem_nil, or_false] at hy
    rcases hy with rfl | rfl | rfl
    · exact .inr (by show _ ≤ m1; omega)
    · exact .inr (by show _ ≤ qb; omega)
    · exact .inr (by show _ ≤ m2; omega)
end
set_option maxRecDepth 100000 in
set_option maxHeartbeats 8000000 in
theorem wrstep_any {w0 w W : World} {B : WB} {V : WV} {s : CS} {S : List Nat} {xb : Nat} {left : List Chg} {qs : List (Nat × Dg)} (h : WMB w0 w W B V s S xb left qs) (hs0 : w0.heap.size ≤ w.heap.size) (hr : s.room) (hits : V.its.length ≤ 30) (hkeys : ∀ x ∈ V.its, x.key.size ≤ maxLen) (hlen : left.length ≤ 60) (hov : ∀ q ∈ qs, q.2.over = false) :
    Calls Tryz.prog 30 #[.pointer (some ⟨xb, 0, none⟩), .pointer (some ⟨B.wb, 0, none⟩)] W (WSPost w0 w B V S xb (wgo V.its s left (qs.map Prod.snd))) := by
  obtain ⟨R, hR⟩ : ∃ R, R = wgo V.its s left (qs.map Prod.snd) := ⟨_, rfl⟩
  rw [← hR]
  have H := Lib.hid h; have HS0 := Lib.hid hs0; have HR := Lib.hid hr; have HITS := Lib.hid hits; have HKEYS := Lib.hid hkeys; have HLEN := Lib.hid hlen; have HOV := Lib.hid hov; have HRR := Lib.hid hR
  clear h hs0 hr hits hkeys hlen hov hR
  go_enter Tryz.func30, Tryz.ntmps30
  go_wp2_with fail
  go_loopw [4] (fun v4 wr => v4 = .bool false ∧ ∃ lf qs1, WMB w0 w wr B V s S xb lf qs1 ∧ R = wgo V.its s lf (qs1.map Prod.snd) ∧ lf.length ≤ 60 ∧ (∀ q ∈ qs1, q.2.over = false)) (fun _ wr => wmsr xb wr)
  case atStart => exact ⟨rfl, left, qs, H.out, HRR.out, HLEN.out, HOV.out⟩
  case round =>
    clear H HRR HLEN HOV
    obtain ⟨rfl, lf, qs1, hm, hRR, hlf, hov⟩ := hrel
    obtain ⟨a, c, vd, b1, b2, b3⟩ := hm.wr.ex
    have c0 : wr.cell? ⟨xb, 0, none⟩ = some (.slice a lf.length c) := hcell b1 0
    have c1 : wr.cell? ⟨xb, 1, none⟩ = some vd := hcell b1 1
    have f1 : wr.frozen? ⟨xb, 1, none⟩ = false := hfrz b1 1
    have f0 : wr.frozen? ⟨xb, 0, none⟩ = false := hfrz b1 0
    cases qs1 with
    | cons q rest =>
      obtain ⟨g, o, k, rfl, c2, hk1, hk2, hrow⟩ := op_pop b3
      obtain ⟨m, dd⟩ := q
      have hlo := (hm.wr.dos (m, dd) (List.mem_cons_self)).1
      have hat := (hm.wr.dos (m, dd) (List.mem_cons_self)).2.1
      have hok := (hm.wr.dos (m, dd) (List.mem_cons_self)).2.2
      have hovr : dd.over = false := hov (m, dd) (List.mem_cons_self)
      have hz : (((rest.length + 1 : Nat) : Int) == 0) = false := beq_eq_false_iff_ne.2 (by omega)
      have HM := Lib.hid hm; have HRR := Lib.hid hRR; have HROW := Lib.hid hrow
      have HRW := Lib.hid (show R = wdo s lf dd (rest.map Prod.snd) from hRR.trans (wgo_cons _ _ _ _ _))
      cases dd with
      | mark xs =>
        have c2' : wr.cell? ⟨g, o, none⟩ = some (.iface 225 (.pointer (some ⟨m, 0, none⟩))) := c2
        have hst := dgv_mark hm.ws HR.out hlo hat hovr hok
        clear hm hRR hrow b1 b2 b3 c2 hlo hat hok hovr hov hk1 hk2 hlf
        go_upto_if 156 with (go_at_call 304; refine hst.mono ?_; intro e w3 hh; obtain ⟨hh1, h3, d3, f3⟩ := hh; subst hh1; have H3 := Lib.hid (HM.out.stp h3 d3 f3); clear h3 d3 f3 hst c0 c1 f1 f0 c2')
        obtain ⟨dd, hdd⟩ : ∃ dd, dd = Dg.mark xs := ⟨_, rfl⟩
        rw [← hdd] at H3 HRW ⊢
        clear HM HROW hdd hz
        obtain ⟨ov, hov⟩ : ∃ ov, (dd.step s).2.over = ov := ⟨_, rfl⟩
        rw [hov]
        have HOVV := Lib.hid hov
        clear hov
        cases ov
        · go_wp2_with fail
          go_ret
          rw [HRW.out]
          exact ⟨(m, (dd.step s).2) :: rest, rfl, H3.out, by simp [wdo, HOVV.out]⟩
        · obtain ⟨a', c', vd', b1, b2, b3⟩ := H3.out.wr.ex
          obtain ⟨g2, o2, k2, rfl, -, hk1, hk2, hrow2⟩ := op_pop b3
          have c1 : w3.cell? ⟨xb, 1, none⟩ = some (.slice (some ⟨g2, o2, none⟩) (rest.length + 1) (k2 + 1)) := hcell b1 1
          have f1 : w3.frozen? ⟨xb, 1, none⟩ = false := hfrz b1 1
          have hnd := H3.out.wr.nd
          have hk0 : (rest.length : Int) ≤ k2 := by omega
          rcases Nat.eq_zero_or_pos k2 with hkz | hkz
          · subst hkz
            rw [if_pos rfl] at hrow2
            have H4 := Lib.hid (H3.out.setx hrow2 (fun q hq => H3.out.wr.dos q (List.mem_cons_of_mem _ hq)) (by simp only [List.map_cons, List.nodup_cons] at hnd; exact hnd.2) (fun q hq => H3.out.owns q (List.mem_cons_of_mem _ hq)))
            clear b1 b2 b3 hnd hrow2 H3 hk2 hk1
            go_wp2_with fail
            go_ret
            rw [HRW.out]
            exact ⟨rest, rfl, H4.out, by simp [wdo, HOVV.out]⟩
          · have hkn : ¬ k2 = 0 := by omega
            rw [if_neg hkn] at hrow2
            have H4 := Lib.hid (H3.out.setx hrow2 (fun q hq => H3.out.wr.dos q (List.mem_cons_of_mem _ hq)) (by simp only [List.map_cons, List.nodup_cons] at hnd; exact hnd.2) (fun q hq => H3.out.owns q (List.mem_cons_of_mem _ hq)))
            clear b1 b2 b3 hnd hrow2 H3 hk2 hk1 hkz
            go_wp2_with fail
            go_ret
            rw [HRW.out]
            exact ⟨rest, rfl, H4.out, by simp [wdo, HOVV.out]⟩
      | out σ =>
        have c2' : wr.cell? ⟨g, o, none⟩ = some (.iface 223 (.pointer (some ⟨m, 0, none⟩))) := c2
        have hst := dgv_out hm.ws HR.out hlo hat hovr hok
        clear hm hRR hrow b1 b2 b3 c2 hlo hat hok hovr hov hk1 hk2 hlf
        go_upto_if 156 with (go_at_call 298; refine hst.mono ?_; intro e w3 hh; obtain ⟨hh1, h3, d3, f3⟩ := hh; subst hh1; have H3 := Lib.hid (HM.out.stp h3 d3 f3); clear h3 d3 f3 hst c0 c1 f1 f0 c2')
        obtain ⟨dd, hdd⟩ : ∃ dd, dd = Dg.out σ := ⟨_, rfl⟩
        rw [← hdd] at H3 HRW ⊢
        clear HM HROW hdd hz
        obtain ⟨ov, hov⟩ : ∃ ov, (dd.step s).2.over = ov := ⟨_, rfl⟩
        rw [hov]
        have HOVV := Lib.hid hov
        clear hov
        cases ov
        · go_wp2_with fail
          go_ret
          rw [HRW.out]
          exact ⟨(m, (dd.step s).2) :: rest, rfl, H3.out, by simp [wdo, HOVV.out]⟩
        · obtain ⟨a', c', vd', b1, b2, b3⟩ := H3.out.wr.ex
          obtain ⟨g2, o2, k2, rfl, -, hk1, hk2, hrow2⟩ := op_pop b3
          have c1 : w3.cell? ⟨xb, 1, none⟩ = some (.slice (some ⟨g2, o2, none⟩) (rest.length + 1) (k2 + 1)) := hcell b1 1
          have f1 : w3.frozen? ⟨xb, 1, none⟩ = false := hfrz b1 1
          have hnd := H3.out.wr.nd
          have hk0 : (rest.length : Int) ≤ k2 := by omega
          rcases Nat.eq_zero_or_pos k2 with hkz | hkz
          · subst hkz
            rw [if_pos rfl] at hrow2
            have H4 := Lib.hid (H3.out.setx hrow2 (fun q hq => H3.out.wr.dos q (List.mem_cons_of_mem _ hq)) (by simp only [List.map_cons, List.nodup_cons] at hnd; exact hnd.2) (fun q hq => H3.out.owns q (List.mem_cons_of_mem _ hq)))
            clear b1 b2 b3 hnd hrow2 H3 hk2 hk1
            go_wp2_with fail
            go_ret
            rw [HRW.out]
            exact ⟨rest, rfl, H4.out, by simp [wdo, HOVV.out]⟩
          · have hkn : ¬ k2 = 0 := by omega
            rw [if_neg hkn] at hrow2
            have H4 := Lib.hid (H3.out.setx hrow2 (fun q hq => H3.out.wr.dos q (List.mem_cons_of_mem _ hq)) (by simp only [List.map_cons, List.nodup_cons] at hnd; exact hnd.2) (fun q hq => H3.out.owns q (List.mem_cons_of_mem _ hq)))
            clear b1 b2 b3 hnd hrow2 H3 hk2 hk1 hkz
            go_wp2_with fail
            go_ret
            rw [HRW.out]
            exact ⟨rest, rfl, H4.out, by simp [wdo, HOVV.out]⟩
      | put σ gg r =>
        have c2' : wr.cell? ⟨g, o, none⟩ = some (.iface 219 (.pointer (some ⟨m, 0, none⟩))) := c2
        have hst := dgv_put hm.ws HR.out hlo hat hovr hok
        clear hm hRR hrow b1 b2 b3 c2 hlo hat hok hovr hov hk1 hk2 hlf
        go_upto_if 156 with (go_at_call 288; refine hst.mono ?_; intro e w3 hh; obtain ⟨hh1, h3, d3, f3⟩ := hh; subst hh1; have H3 := Lib.hid (HM.out.stp h3 d3 f3); clear h3 d3 f3 hst c0 c1 f1 f0 c2')
        obtain ⟨dd, hdd⟩ : ∃ dd, dd = Dg.put σ gg r := ⟨_, rfl⟩
        rw [← hdd] at H3 HRW ⊢
        clear HM HROW hdd hz
        obtain ⟨ov, hov⟩ : ∃ ov, (dd.step s).2.over = ov := ⟨_, rfl⟩
        rw [hov]
        have HOVV := Lib.hid hov
        clear hov
        cases ov
        · go_wp2_with fail
          go_ret
          rw [HRW.out]
          exact ⟨(m, (dd.step s).2) :: rest, rfl, H3.out, by simp [wdo, HOVV.out]⟩
        · obtain ⟨a', c', vd', b1, b2, b3⟩ := H3.out.wr.ex
          obtain ⟨g2, o2, k2, rfl, -, hk1, hk2, hrow2⟩ := op_pop b3
          have c1 : w3.cell? ⟨xb, 1, none⟩ = some (.slice (some ⟨g2, o2, none⟩) (rest.length + 1) (k2 + 1)) := hcell b1 1
          have f1 : w3.frozen? ⟨xb, 1, none⟩ = false := hfrz b1 1
          have hnd := H3.out.wr.nd
          have hk0 : (rest.length : Int) ≤ k2 := by omega
          rcases Nat.eq_zero_or_pos k2 with hkz | hkz
          · subst hkz
            rw [if_pos rfl] at hrow2
            have H4 := Lib.hid (H3.out.setx hrow2 (fun q hq => H3.out.wr.dos q (List.mem_cons_of_mem _ hq)) (by simp only [List.map_cons, List.nodup_cons] at hnd; exact hnd.2) (fun q hq => H3.out.owns q (List.mem_cons_of_mem _ hq)))
            clear b1 b2 b3 hnd hrow2 H3 hk2 hk1
            go_wp2_with fail
            go_ret
            rw [HRW.out]
            exact ⟨rest, rfl, H4.out, by simp [wdo, HOVV.out]⟩
          · have hkn : ¬ k2 = 0 := by omega
            rw [if_neg hkn] at hrow2
            have H4 := Lib.hid (H3.out.setx hrow2 (fun q hq => H3.out.wr.dos q (List.mem_cons_of_mem _ hq)) (by simp only [List.map_cons, List.nodup_cons] at hnd; exact hnd.2) (fun q hq => H3.out.owns q (List.mem_cons_of_mem _ hq)))
            clear b1 b2 b3 hnd hrow2 H3 hk2 hk1 hkz
            go_wp2_with fail
            go_ret
            rw [HRW.out]
            exact ⟨rest, rfl, H4.out, by simp [wdo, HOVV.out]⟩
    | nil =>
      obtain ⟨av, cv, rfl, -, -, -⟩ := b3
      cases lf with
      | nil =>
        have HM := Lib.hid hm; have HRR := Lib.hid hRR
        clear hm hRR b1 b2 hlf hov
        go_wp2_with fail
        go_ret
        rw [HRR.out]
        exact ⟨[], rfl, HM.out, rfl⟩
      | cons ch r =>
        obtain ⟨g, o, k, rfl, rfl, hch, hk1, hk2, q0, q1, q2, q3, hq⟩ := quad_pop b2
        have e0 := (hm.ws.below.cell (World.block_lt_of_cell? _ _ q0)).trans q0
        have e1 := (hm.ws.below.cell (World.block_lt_of_cell? _ _ q1)).trans q1
        have e2 := (hm.ws.below.cell (World.block_lt_of_cell? _ _ q2)).trans q2
        have e3 := (hm.ws.below.cell (World.block_lt_of_cell? _ _ q3)).trans q3
        have hlz : (((r.length + 1 : Nat) : Int) == 0) = false := beq_eq_false_iff_ne.2 (by omega)
        have hms0 : wmsr xb wr = r.length + 2 := by unfold wmsr; rw [c0, c1]; rfl
        have HMS := Lib.hid hms0
        have HM := Lib.hid hm; have HRR := Lib.hid hRR; have HQ := Lib.hid hq; have HCH := Lib.hid hch; have HKB := Lib.hid (And.intro hk1 hk2)
        have hr60 : r.length ≤ 59 := by simp only [List.length_cons] at hlf; omega
        have HR60 := Lib.hid hr60
        clear hm hRR hq hch b1 b2 hlf hov q0 q1 q2 q3 hms0 hk1 hk2 hr60
        go_upto_region 5 with (fail)
        have hbA := below_alloc wr (.cells #[.int .u8 ch.kind, .int .u8 ch.item, .int .u8 ch.place, .int .u8 ch.slot] 217)
        have hzA := heap_alloc_new wr (.cells #[.int .u8 ch.kind, .int .u8 ch.item, .int .u8 ch.place, .int .u8 ch.slot] 217)
        change Code.wp _ _ _ _ (wr.alloc (.cells #[.int .u8 ch.kind, .int .u8 ch.item, .int .u8 ch.place, .int .u8 ch.slot] 217))
        have HM4 := Lib.hid (HM.out.below hbA); have HZ4 := Lib.hid hzA
        have C0 : Hid ((wr.alloc (.cells #[.int .u8 ch.kind, .int .u8 ch.item, .int .u8 ch.place, .int .u8 ch.slot] 217)).cell? ⟨xb, 0, none⟩ = some (.slice (some ⟨g, o, none⟩) (r.length + 1) (k + 1))) := Lib.hid ((hbA.cell (World.block_lt_of_cell? _ _ c0)).trans c0)
        have HXN : Hid (wr.heap.size ≠ xb) := fun e => by
          obtain ⟨a', c', vd', b1, -, -⟩ := HM.out.wr.ex
          have := (Array.getElem?_eq_some_iff.1 b1).1; omega
        clear hbA hzA e0 e1 e2 e3 c0 c1 f0 f1
        generalize wr.alloc (.cells #[.int .u8 ch.kind, .int .u8 ch.item, .int .u8 ch.place, .int .u8 ch.slot] 217) = w4 at *
        generalize wr.heap.size = pc at *
        have hm4 := HM4.out
        obtain ⟨a4, c4, vd4, b41, b42, b43⟩ := hm4.wr.ex
        have c0 : w4.cell? ⟨xb, 0, none⟩ = some (.slice (some ⟨g, o, none⟩) (r.length + 1) (k + 1)) := C0.out
        have f0 : w4.frozen? ⟨xb, 0, none⟩ = false := hfrz b41 0
        have hqq := HQ.out
        clear b41 b42 b43 C0 HM
        have hk0 : (r.length : Int) ≤ k := by have := HKB.out; omega
        rcases Nat.eq_zero_or_pos k with hkz | hkz
        case' inl =>
          subst hkz
          rw [if_pos rfl] at hqq
          have HM5 := Lib.hid (hm4.setc hqq)
          have HZ5 := Lib.hid ((Below.heap_setCell w4 ⟨xb, 0, none⟩ (.slice (some ⟨g, o, none⟩) r.length 0) pc HXN.out).trans HZ4.out)
          clear hm4 hqq HM4 HZ4
          go_upto_region 6 with (fail)
          change Code.wp _ _ _ _ (w4.setCell ⟨xb, 0, none⟩ (.slice (some ⟨g, o, none⟩) r.length 0))
          clear c0 f0 HKB hk0 HQ
          generalize w4.setCell ⟨xb, 0, none⟩ (.slice (some ⟨g, o, none⟩) r.length 0) = w5 at *
        case' inr =>
          have hkn : ¬ k = 0 := by omega
          rw [if_neg hkn] at hqq
          have HM5 := Lib.hid (hm4.setc hqq)
          have HZ5 := Lib.hid ((Below.heap_setCell w4 ⟨xb, 0, none⟩ (.slice (some ⟨g, o + 4, none⟩) r.length k) pc HXN.out).trans HZ4.out)
          clear hm4 hqq HM4 HZ4 hkz
          go_upto_region 6 with (fail)
          change Code.wp _ _ _ _ (w4.setCell ⟨xb, 0, none⟩ (.slice (some ⟨g, o + 4, none⟩) r.length k))
          clear c0 f0 HKB hk0 HQ hkn
          generalize w4.setCell ⟨xb, 0, none⟩ (.slice (some ⟨g, o + 4, none⟩) r.length k) = w5 at *
        all_goals
          have hpk := HM5.out.ws.peek 2 (by decide)
          have has := fun W => as_any (s.val 2) (HM5.out.ws.own.wf 2) W
          have c0 := HM5.out.ws.c0
          have z0 : w5.cell? ⟨pc, 0, none⟩ = some (.int .u8 ch.kind) := hcell HZ5.out 0
          obtain ⟨od, hod⟩ : ∃ od, asOld (s.val 2) = od := ⟨_, rfl⟩
          obtain ⟨nw, hnw⟩ : ∃ nw, asNow (s.val 2) = nw := ⟨_, rfl⟩
          rw [hod, hnw] at has
          have HOD := Lib.hid hod; have HNW := Lib.hid hnw
          have hkd := HCH.out.kind
          have hkm : ch.kind.tmod 8 = ch.kind % 8 := Int.tmod_eq_emod_of_nonneg hkd.1
          clear hod hnw
          go_upto_region 7 with (first
            | (go_at_call 33; refine hpk.mono ?_; intro e w' hh; obtain ⟨hh1, hh2⟩ := hh; subst hh1; obtain rfl := hh2.symm; clear hpk)
            | (go_at_call 53; refine (has _).mono ?_; intro e w' hh; obtain ⟨hh1, hh2⟩ := hh; subst hh1; obtain rfl := hh2.symm; clear has))
          clear c0 z0 hkd
          have hob : 0 ≤ od ∧ od < 256 := by rw [← HOD.out]; unfold asOld; split <;> omega
          have hnb : 0 ≤ nw ∧ nw < 256 := by rw [← HNW.out]; unfold asNow; split <;> omega
          by_cases h7 : ch.kind % 8 = 7
          case' pos =>
            have h7' : (ch.kind.tmod 8 == 7) = true := by rw [hkm, h7]; rfl
            have hwd := fun W => word_any od (od + 1) W
            have hwn := fun W => word_any nw 0 W
            have z0 : w5.cell? ⟨pc, 0, none⟩ = some (.int .u8 ch.kind) := hcell HZ5.out 0
            have c0 := HM5.out.ws.c0
            have hRA : R = (if od < 12 then (true, s.acc 2 2 (if 0 < nw then tword nw 0 else tword od (od + 1)), r, []) else wgo V.its s r []) := by
              rw [HRR.out]; simp only [List.map_nil, wgo, if_pos h7, nextW, HOD.out, HNW.out]
            obtain ⟨nx, hnx⟩ : ∃ nx, nx = (if 0 < nw then tword nw 0 else tword od (od + 1)) := ⟨_, rfl⟩
            rw [← hnx] at hRA
            have hnwf : (Lit.int .u64 nx).wf = true := by
              rw [hnx]; unfold tword
              split <;> (simp [Lit.wf, IntKind.min, IntKind.max, IntKind.bits, IntKind.signed]; omega)
            have hst := HM5.out.ws.store HR.out 2 (by decide) nx hnwf
            have HRA := Lib.hid hRA
            clear hRA hnwf HRR
            by_cases hn0 : 0 < nw
            case' pos =>
              rw [if_pos hn0] at hnx
              subst hnx
              have dn : decide (0 < nw) = true := decide_eq_true hn0
              clear hn0
            case' neg =>
              rw [if_neg hn0] at hnx
              subst hnx
              have dn : decide (0 < nw) = false := decide_eq_false hn0
              clear hn0
            all_goals
              by_cases ho : od < 12
              · have hRB := HRA.out
                rw [if_pos ho] at hRB
                have HRB := Lib.hid hRB
                have do1 : decide (od < 12) = true := decide_eq_true ho
                clear hRB ho HRA
                go_wp2_with (first
                  | (go_at_call 102; with_reducible refine (hwd _).mono ?_; intro e w' hh; obtain ⟨hh1, hh2⟩ := hh; subst hh1; obtain rfl := hh2.symm)
                  | (go_at_call 102; with_reducible refine (hwn _).mono ?_; intro e w' hh; obtain ⟨hh1, hh2⟩ := hh; subst hh1; obtain rfl := hh2.symm)
                  | (go_at_call 91; refine hst.mono ?_; intro e w6 hh; obtain ⟨hh1, h6, f6⟩ := hh; subst hh1; have HM6 := Lib.hid (HM5.out.move h6 f6); clear h6 f6 hst c0 z0))
                go_ret
                rw [HRB.out]
                exact ⟨[], rfl, HM6.out, rfl⟩
              · have hRB := HRA.out
                rw [if_neg ho] at hRB
                have HRB := Lib.hid hRB
                have do1 : decide (od < 12) = false := decide_eq_false ho
                clear hRB ho HRA hst
                go_wp2_with (first
                  | (go_at_call 102; with_reducible refine (hwd _).mono ?_; intro e w' hh; obtain ⟨hh1, hh2⟩ := hh; subst hh1; obtain rfl := hh2.symm)
                  | (go_at_call 102; with_reducible refine (hwn _).mono ?_; intro e w' hh; obtain ⟨hh1, hh2⟩ := hh; subst hh1; obtain rfl := hh2.symm))
                go_roundw
                case rel => exact ⟨rfl, r, [], HM5.out, HRB.out, by have := HR60.out; omega, fun q hq => by cases hq⟩
                case measure => rw [HMS.out]; exact wmsr_lt HM5.out
          · have h7' : (ch.kind.tmod 8 == 7) = false := by rw [hkm]; exact beq_eq_false_iff_ne.2 h7
            have z0 : w5.cell? ⟨pc, 0, none⟩ = some (.int .u8 ch.kind) := hcell HZ5.out 0
            have z1 : w5.cell? ⟨pc, 1, none⟩ = some (.int .u8 ch.item) := hcell HZ5.out 1
            have c1 := HM5.out.ws.hd5.2.1
            have hct : Calls Tryz.prog 101 #[.pointer (some ⟨B.ib, 0, none⟩)] w5 fun e w' => e = .returned (.int .i64 V.its.length) ∧ w5 = w' := by
              obtain ⟨SA, hA⟩ := HM5.out.ws.ar
              exact count_arena _ _ _ SA _ hA
            by_cases hi0 : V.its = []
            · have hRB : R = wgo V.its s r [] := by
                rw [HRR.out]; simp only [List.map_nil, wgo, if_neg h7, if_pos hi0]
              have HRB := Lib.hid hRB
              have hl0 : ((V.its.length : Int) == 0) = true := by rw [hi0]; rfl
              clear hRB HRR hi0
              go_wp2_with (go_at_call 101; refine hct.mono ?_; intro e w' hh; obtain ⟨hh1, hh2⟩ := hh; subst hh1; obtain rfl := hh2; clear hct c1)
              go_roundw
              case rel => exact ⟨rfl, r, [], HM5.out, HRB.out, by have := HR60.out; omega, fun q hq => by cases hq⟩
              case measure => rw [HMS.out]; exact wmsr_lt HM5.out
            · have hpos : 0 < V.its.length := List.length_pos_iff.2 hi0
              have hl0 : ((V.its.length : Int) == 0) = false := beq_eq_false_iff_ne.2 (by omega)
              have hRB : R = (match chRow V.its s.val ch with | [] => (true, s, r, []) | d :: rr => wdo s r d rr) := by
                rw [HRR.out]; simp only [List.map_nil, wgo, if_neg h7, if_neg hi0]
                cases chRow V.its s.val ch <;> rfl
              have HRB := Lib.hid hRB
              have hit0 := HCH.out.item
              have hits := HITS.out
              obtain ⟨many, hmany⟩ : ∃ many : Nat, many = V.its.length := ⟨_, rfl⟩
              obtain ⟨ref, href⟩ : ∃ ref, ref = 1 + ch.item % many := ⟨_, rfl⟩
              have hrf0 : 1 ≤ ref ∧ ref ≤ 30 := by
                have h1 := Int.emod_nonneg ch.item (b := (many : Int)) (by omega)
                have h2 := Int.emod_lt_of_pos ch.item (show (0 : Int) < many by omega)
                omega
              have e2 : wrap64 (1 + ch.item % (many : Int)) = ref := by
                rw [← href]; exact IntWalk.wrap64_in _ (by omega)
              rw [← hmany] at hl0 hct hpos
              have hmz : ¬ (many : Int) = 0 := by omega
              have HPOS := Lib.hid hpos
              have HREF := Lib.hid href; have HRF0 := Lib.hid hrf0; have HMANY := Lib.hid hmany
              have hi9 := HM5.out.ws.iat5 (by omega) ref
              obtain ⟨y, hy⟩ : ∃ y, y = (atOf V.its ref).1 := ⟨_, rfl⟩
              obtain ⟨yb, hyb⟩ : ∃ yb, yb = (atOf V.its ref).2 := ⟨_, rfl⟩
              rw [← hy, ← hyb] at hi9
              have HY := Lib.hid hy
              clear hRB HRR hi0 href hmany hy hyb hrf0 hits hkm hob hnb h7
              go_upto_region 16 with (go_at_call 101; refine hct.mono ?_; intro e w' hh; obtain ⟨hh1, hh2⟩ := hh; subst hh1; obtain rfl := hh2; clear hct)
              go_upto_region 17 with (fail)
              rw [e2]
              go_upto_region 18 with (go_at_call 40; refine hi9.mono ?_; intro e w6 hh; obtain ⟨hh1, b6⟩ := hh; subst hh1; have B6 := Lib.hid b6; clear b6 hi9 c1 z0 z1)
              clear e2 hmz hl0 hpos hit0
              have hbA := below_alloc w6 (.cells y.cells.toArray 52)
              have hzA := heap_alloc_new w6 (.cells y.cells.toArray 52)
              have b6A := B6.out.trans (hbA.mono B6.out.size)
              have HM7 := Lib.hid (HM5.out.below b6A); have HZ7 := Lib.hid ((b6A.block _ (Array.getElem?_eq_some_iff.1 HZ5.out).1).trans HZ5.out); have HYA := Lib.hid hzA
              change Code.wp _ _ _ _ (w6.alloc (.cells y.cells.toArray 52))
              clear hbA hzA b6A B6 HM5 HZ5
              generalize w6.alloc (.cells y.cells.toArray 52) = w7 at *
              generalize w6.heap.size = py at *
              have hyk : y.key.size ≤ maxLen := by
                rw [HY.out]
                unfold atOf
                split
                · rename_i hc
                  refine HKEYS.out _ ?_
                  rw [List.getD_eq_getElem?_getD, List.getElem?_eq_getElem (by have := hc; omega)]
                  exact List.getElem_mem _
                · exact Nat.zero_le _
              have hH := fun W => hash_big y.key hyk W
              obtain ⟨hh0, hh1⟩ := hfold_bd y.key y.key.size
              have hP := Lib.hid (fun W => places_any (hashOf y.key) (s.val 2) hh0 hh1 (HM7.out.ws.own.wf 2) W)
              have hTg := Lib.hid (fun W => tag_fn (hashOf y.key) hh0 hh1 W)
              have hTb := Lib.hid (tag01_bd (hashOf y.key) hh0 hh1)
              have k0 : w7.cell? ⟨py, 0, none⟩ = some (.string y.key) := hcell HYA.out 0
              clear hyk hh0 hh1
              go_upto_region 19 with (go_at_call 32; refine (hH _).mono ?_; intro e w8 hh; obtain ⟨hh1, b8⟩ := hh; subst hh1; have HM8 := Lib.hid (HM7.out.below b8); have HZ8 := Lib.hid ((b8.block _ (Array.getElem?_eq_some_iff.1 HZ7.out).1).trans HZ7.out); clear b8 k0 hH)
              clear HM7 HZ7 HYA
              have hpk := HM8.out.ws.peek 2 (by decide)
              have c0 := HM8.out.ws.c0
              have hlp := plist_posL (hashOf y.key) (s.val 2)
              have hl4 := plist_len (hashOf y.key) (s.val 2)
              obtain ⟨Lp, hLp⟩ : ∃ Lp, Lp = plist (hashOf y.key) (s.val 2) := ⟨_, rfl⟩
              rw [← hLp] at hP hlp hl4
              have HLP := Lib.hid hLp
              clear hLp
              have hlz : ((Lp.length : Int) == 0) = false := beq_eq_false_iff_ne.2 (by omega)
              have HL4 := Lib.hid (And.intro hlp hl4)
              clear hlp hl4
              go_upto_region 22 with (first
                | (go_at_call 33; refine hpk.mono ?_; intro e w' hh; obtain ⟨hh1, hh2⟩ := hh; subst hh1; obtain rfl := hh2.symm; clear hpk c0)
                | (go_at_call 31; refine (hP.out _).mono ?_; intro e w9 hh; obtain ⟨pv, hh1, hp, b9⟩ := hh; subst hh1; have HM9 := Lib.hid (HM8.out.below b9); have HZ9 := Lib.hid ((b9.block _ (Array.getElem?_eq_some_iff.1 HZ8.out).1).trans HZ8.out); obtain ⟨ao, hpv, hplc⟩ := hp.plc; subst hpv; have HPC := Lib.hid hplc; clear b9 hp hplc))
              clear HM8 HZ8 hlz hP
              have hl4 := HL4.out
              have hpb := HCH.out.place
              have hsb := HCH.out.slot
              have z2 : w9.cell? ⟨pc, 2, none⟩ = some (.int .u8 ch.place) := hcell HZ9.out 2
              have z3 : w9.cell? ⟨pc, 3, none⟩ = some (.int .u8 ch.slot) := hcell HZ9.out 3
              have hm0 := Int.emod_nonneg ch.place (b := (Lp.length : Int)) (by omega)
              have hm1 := Int.emod_lt_of_pos ch.place (show (0 : Int) < Lp.length by omega)
              obtain ⟨pi, hpi⟩ : ∃ pi : Nat, (pi : Int) = ch.place % Lp.length := ⟨(ch.place % Lp.length).toNat, Int.toNat_of_nonneg hm0⟩
              have hpil : pi < Lp.length := by omega
              obtain ⟨gp, op, x, yy, hao, hlk, g0, g1⟩ := HPC.out.at pi hpil
              subst hao
              have hidx : ch.place % (Lp.length : Int) = (pi : Int) := hpi.symm
              have hpi' : (pi : Int) < Lp.length := by omega
              have hlz : ¬ (Lp.length : Int) = 0 := by omega
              have hl4' : (Lp.length : Int) ≤ 4 := by omega
              have HLK := Lib.hid hlk; have HIDX := Lib.hid hidx
              clear hl4 hm0 hm1 hpi hpil hlk
              have y2 := fun o => ((below_alloc w9 o).cell (World.block_lt_of_cell? _ _ z2)).trans z2
              have y3 := fun o => ((below_alloc w9 o).cell (World.block_lt_of_cell? _ _ z3)).trans z3
              have y0 := fun o => ((below_alloc w9 o).cell (World.block_lt_of_cell? _ _ g0)).trans g0
              have y1 := fun o => ((below_alloc w9 o).cell (World.block_lt_of_cell? _ _ g1)).trans g1
              go_region
              clear y0 y1 y2 y3 z2 z3 g0 g1 hidx hpi' hlz hl4'
              obtain ⟨sl, hsl⟩ : ∃ sl, sl = ch.slot % 4 := ⟨_, rfl⟩
              rw [← hsl]
              have hslw : (Lit.int .i64 sl).wf = true := by rw [hsl]; simp [Lit.wf, IntKind.min, IntKind.max, IntKind.bits, IntKind.signed]; omega
              have hbA := (below_alloc w9 (.cells #[.int .i64 x, .int .i64 yy, .int .i64 sl] 43)).drew
              have hzA : ((w9.alloc (.cells #[.int .i64 x, .int .i64 yy, .int .i64 sl] 43)).drew).heap[w9.heap.size]? = some (.cells #[.int .i64 x, .int .i64 yy, .int .i64 sl] 43 (0, 0)) := heap_alloc_new w9 _
              have HM10S := Lib.hid (Nat.le_trans HM9.out.fs.size hbA.size)
              have HM10 := Lib.hid (HM9.out.below hbA); have HZ10 := Lib.hid ((hbA.block _ (Array.getElem?_eq_some_iff.1 HZ9.out).1).trans HZ9.out); have HSP := Lib.hid hzA; have HSL := Lib.hid hsl; have HSLW := Lib.hid hslw
              clear hbA hzA HM9 HZ9 hsb hsl hslw HPC
              generalize (w9.alloc (.cells #[.int .i64 x, .int .i64 yy, .int .i64 sl] 43)).drew = w10 at *
              generalize w9.heap.size = ps at *
              have s0 := hcell HSP.out 0; have s1 := hcell HSP.out 1; have s2 := hcell HSP.out 2
              simp only [List.getElem?_toArray, List.getElem?_cons_zero, List.getElem?_cons_succ] at s0 s1 s2
              have hbd : Below w10.heap.size w10 w10.drew := (Below.refl _ _).drew
              have HBD := Lib.hid hbd
              have hnp := fun W => newput_s (x, yy, sl) (tag01 (hashOf y.key)) ref HSLW.out W
              have t10 : TSpw ps x yy sl w10.drew := ⟨s0, s1, s2⟩
              clear s0 s1 s2 hbd
              go_upto_region 23 with (fail)
              go_region_held2 (fun W => TSpw ps x yy sl W) (assumption) (first
                | (go_at_call 56; refine (hTg.out _).mono ?_; intro e w' hh; obtain ⟨hh1, hh2⟩ := hh; subst hh1; obtain rfl := hh2.symm)
                | (go_at_call 103; refine (hnp _).mono ?_; intro e w11 hh; obtain ⟨pb, hh1, d11, l11, b11⟩ := hh; subst hh1; have b11' := HBD.out.trans b11; have HM11 := Lib.hid (HM10.out.below b11'); have HZ11 := Lib.hid ((b11'.block _ (Array.getElem?_eq_some_iff.1 HZ10.out).1).trans HZ10.out); have HSP11 := Lib.hid ((b11'.block _ (Array.getElem?_eq_some_iff.1 HSP.out).1).trans HSP.out); have D11 := Lib.hid d11; have L11 := Lib.hid (show w10.heap.size ≤ pb from l11); have S11 := Lib.hid b11'.size; have t11 : TSpw ps x yy sl w11 := ⟨hcell HSP11.out 0, hcell HSP11.out 1, hcell HSP11.out 2⟩; clear d11 l11 b11 b11' hnp t10))
              clear t11
              obtain ⟨gk, hgk⟩ : ∃ gk, decide (3 < ch.kind.tmod 8) = gk := ⟨_, rfl⟩
              have hkm : ch.kind.tmod 8 = ch.kind % 8 := Int.tmod_eq_emod_of_nonneg HCH.out.kind.1
              have z0 : w11.cell? ⟨pc, 0, none⟩ = some (.int .u8 ch.kind) := hcell HZ11.out 0
              have HKM := Lib.hid hkm
              clear hkm
              go_upto_if 130 with (fail)
              have HGK := Lib.hid hgk
              clear hgk z0
              obtain ⟨dd, hdd⟩ : ∃ dd, dd = (if 3 < ch.kind % 8 then Dg.out (sof x yy sl) else hsput (x, yy, sl) (tag01 (hashOf y.key)) ref) := ⟨_, rfl⟩
              have HDD := Lib.hid hdd
              clear hdd
              change Code.wp _ _ _ _ w11
              go_cut [16] (fun v16 wx => ∃ qb : Nat, v16 = .iface dd.ty (.pointer (some ⟨qb, 0, none⟩)) ∧ DgAt wx qb dd ∧ WMB w0 w wx B V s S xb r [] ∧ wx.heap[ps]? = some (.cells #[.int .i64 x, .int .i64 yy, .int .i64 sl] 43 (0, 0)) ∧ w10.heap.size ≤ qb ∧ qb < wx.heap.size)
              case first =>
                cases gk
                · have hd := HDD.out
                  rw [if_neg (by have := of_decide_eq_false HGK.out; rw [HKM.out] at this; exact this)] at hd
                  go_wp2_with fail
                  go_meet
                  case rel => exact ⟨pb, by rw [hd, hsput_ty], by rw [hd]; exact D11.out, HM11.out, HSP11.out, L11.out, D11.out.lt⟩
                · have hd := HDD.out
                  rw [if_pos (by have := of_decide_eq_true HGK.out; rw [HKM.out] at this; exact this)] at hd
                  have s0 := hcell HSP11.out 0; have s1 := hcell HSP11.out 1; have s2 := hcell HSP11.out 2
                  simp only [List.getElem?_toArray, List.getElem?_cons_zero, List.getElem?_cons_succ] at s0 s1 s2
                  have hno := fun W => newout_any x yy sl HSLW.out W
                  go_wp2_with (go_at_call 104; refine (hno _).mono ?_; intro e w12 hh; obtain ⟨ob, hh1, d12, l12, b12⟩ := hh; subst hh1; have HM12 := Lib.hid (HM11.out.below b12); have HSP12 := Lib.hid ((b12.block _ (Array.getElem?_eq_some_iff.1 HSP11.out).1).trans HSP11.out); have D12 : Hid (DgAt w12 ob (.out (sof x yy sl))) := Lib.hid d12; have L12 := Lib.hid (show w10.heap.size ≤ ob from Nat.le_trans S11.out l12); clear d12 l12 b12 hno s0 s1 s2)
                  go_meet
                  case rel => exact ⟨ob, by rw [hd]; rfl, by rw [hd]; exact D12.out, HM12.out, HSP12.out, L12.out, D12.out.lt⟩
              case rest =>
              obtain ⟨qb, hv16, hda, hm12, hsp12, hq1, hq2⟩ := hcut
              subst hv16
              have hok : dd.ok := by
                rw [HDD.out]
                split
                · exact sof_ok _ _ _
                · exact hsput_ok _ _ _ (by have := HRF0.out; omega)
              have HOK := Lib.hid hok
              clear hok HM11 HZ11 HSP11 D11 L11 S11 HSP HM10 HZ10
              have HM13 := Lib.hid hm12; have D13 := Lib.hid hda; have L13 := Lib.hid (show w.heap.size ≤ qb from Nat.le_trans HM10S.out hq1); have SP13 := Lib.hid hsp12
              clear hm12 hda hsp12 hq1 hq2
              go_upto_region 26 with (fail)
              have hNM : ∀ (n : Nat) (W : World), W.heap[n]? = some (.cells #[.int .i64 x, .int .i64 yy] 41 (0, 0)) → Calls Tryz.prog 105 #[.slice (some ⟨n, 0, none⟩) 1 1] W fun e w' => ∃ mb, e = .returned (.pointer (some ⟨mb, 0, none⟩)) ∧ MarkAt w' mb (vof [(x, yy)]) ∧ W.heap.size ≤ mb ∧ Below W.heap.size W w' := fun n W hz => newmark_any [(x, yy)] (some ⟨n, 0, none⟩) 1 W (plc_blk1 hz) (by simp)
              have HNM := Lib.hid hNM
              obtain ⟨PB, hPB⟩ : ∃ PB, PB = Obj.cells #[.int .i64 x, .int .i64 yy] 41 (0, 0) := ⟨_, rfl⟩
              have hb1 : Below wc.heap.size wc (wc.alloc (.cells #[.int .i64 x, .int .i64 yy] 41)).drew := (below_alloc wc _).drew
              have hb2 : Below wc.heap.size wc ((wc.alloc (.cells #[.int .i64 x, .int .i64 yy] 41)).alloc (.cells #[.int .i64 x, .int .i64 yy] 41)).drew := ((below_alloc wc _).trans ((below_alloc _ _).mono (below_alloc wc _).size)).drew
              have z1 : (wc.alloc (.cells #[.int .i64 x, .int .i64 yy] 41)).drew.heap[wc.heap.size]? = some (.cells #[.int .i64 x, .int .i64 yy] 41 (0, 0)) := heap_alloc_new wc _
              have z2a : ((wc.alloc (.cells #[.int .i64 x, .int .i64 yy] 41)).alloc (.cells #[.int .i64 x, .int .i64 yy] 41)).drew.heap[wc.heap.size]? = some (.cells #[.int .i64 x, .int .i64 yy] 41 (0, 0)) := heap_alloc_old (heap_alloc_new wc _)
              have z2b : ((wc.alloc (.cells #[.int .i64 x, .int .i64 yy] 41)).alloc (.cells #[.int .i64 x, .int .i64 yy] 41)).drew.heap[wc.heap.size + 1]? = some (.cells #[.int .i64 x, .int .i64 yy] 41 (0, 0)) := heap_alloc_at (wc.alloc (.cells #[.int .i64 x, .int .i64 yy] 41)) _ (by simp)
              have HB1 := Lib.hid hb1; have HB2 := Lib.hid hb2; have Z1 := Lib.hid z1; have Z2A := Lib.hid z2a; have Z2B := Lib.hid z2b
              have tS : ∀ W, Below wc.heap.size wc W → TSpw ps x yy sl W := fun W hW => by
                have h := (hW.block _ (Array.getElem?_eq_some_iff.1 SP13.out).1).trans SP13.out
                exact ⟨hcell h 0, hcell h 1, hcell h 2⟩
              have TS := Lib.hid tS
              have t13 : TSpw ps x yy sl wc.drew := tS _ (Below.refl _ _).drew
              have t13a : TSpw ps x yy sl (wc.alloc (.cells #[.int .i64 x, .int .i64 yy] 41)).drew := tS _ hb1
              have t13b : TSpw ps x yy sl ((wc.alloc (.cells #[.int .i64 x, .int .i64 yy] 41)).alloc (.cells #[.int .i64 x, .int .i64 yy] 41)).drew := tS _ hb2
              clear hNM hPB hb1 hb2 z1 z2a z2b tS
              go_region_held2 (fun W => TSpw ps x yy sl W) (first | assumption | exact t14a | exact t15a _ | exact t15s _ _) (first
                | (go_at_call 105; (with_reducible refine (HNM.out _ _ Z1.out).mono ?_); intro e w3 hh; obtain ⟨m1, hh1, d3, l3, b3⟩ := hh; subst hh1; have b3' := HB1.out.trans (b3.mono HB1.out.size); have B3 := Lib.hid b3'; have D3 := Lib.hid d3; have L3 := Lib.hid (Nat.le_trans HB1.out.size l3); have t14 : TSpw ps x yy sl w3 := TS.out _ b3'; have t14a : TSpw ps x yy sl (w3.alloc (.cells #[.int .i64 x, .int .i64 yy] 41)) := TS.out _ (b3'.trans ((below_alloc w3 _).mono b3'.size)); have y3 := heap_alloc_new w3 (.cells #[.int .i64 x, .int .i64 yy] 41); have Y3 := Lib.hid y3; have k3 := below_alloc w3 (.cells #[.int .i64 x, .int .i64 yy] 41); have K3 := Lib.hid k3; clear d3 l3 b3 b3' y3 k3 t13 t13a t13b)
                | (go_at_call 105; (with_reducible refine (HNM.out _ _ Z2A.out).mono ?_); intro e w3 hh; obtain ⟨m1, hh1, d3, l3, b3⟩ := hh; subst hh1; have b3' := HB2.out.trans (b3.mono HB2.out.size); have B3 := Lib.hid b3'; have D3 := Lib.hid d3; have L3 := Lib.hid (Nat.le_trans HB2.out.size l3); have t14 : TSpw ps x yy sl w3 := TS.out _ b3'; have y3 := (b3.block _ (Array.getElem?_eq_some_iff.1 Z2B.out).1).trans Z2B.out; have Y3 := Lib.hid y3; have k3 := Below.refl w3.heap.size w3; have K3 := Lib.hid k3; clear d3 l3 b3 b3' y3 k3 t13 t13a t13b)
                | (go_at_call 105; (with_reducible refine (HNM.out _ _ Z2B.out).mono ?_); intro e w3 hh; obtain ⟨m1, hh1, d3, l3, b3⟩ := hh; subst hh1; have b3' := HB2.out.trans (b3.mono HB2.out.size); have B3 := Lib.hid b3'; have D3 := Lib.hid d3; have L3 := Lib.hid (Nat.le_trans HB2.out.size l3); have t14 : TSpw ps x yy sl w3 := TS.out _ b3'; have y3 := (b3.block _ (Array.getElem?_eq_some_iff.1 Z2A.out).1).trans Z2A.out; have Y3 := Lib.hid y3; have k3 := Below.refl w3.heap.size w3; have K3 := Lib.hid k3; clear d3 l3 b3 b3' y3 k3 t13 t13a t13b)
                | (go_at_call 105; (with_reducible refine (HNM.out _ _ Y3.out).mono ?_); intro e w4 hh; obtain ⟨m2, hh1, d4, l4, b4⟩ := hh; subst hh1; have b34 := K3.out.trans (b4.mono K3.out.size); have b4' := B3.out.trans (b34.mono B3.out.size); have F4 := Lib.hid ((HM13.out.below b4').fin HS0.out (l := [(x, yy)]) (show DgAt w4 m1 (.mark (vof [(x, yy)])) from DgAt.below (d := .mark (vof [(x, yy)])) D3.out b34) (D13.out.below b4') HOK.out d4 L13.out (Nat.lt_of_lt_of_le D13.out.lt L3.out) (Nat.lt_of_lt_of_le (DgAt.lt (d := .mark (vof [(x, yy)])) D3.out) (Nat.le_trans K3.out.size l4))); have t15 : TSpw ps x yy sl w4 := TS.out _ b4'; have t15a : ∀ ob, TSpw ps x yy sl (w4.alloc ob) := fun ob => TS.out _ (b4'.trans ((below_alloc w4 ob).mono b4'.size)); have hwm := HM13.out.below b4'; have t15s : ∀ ob v, TSpw ps x yy sl ((w4.alloc ob).setCell ⟨xb, 1, none⟩ v) := fun ob v => wr_spot (hwm.below (below_alloc w4 ob)) (TS.out _ (b4'.trans ((below_alloc w4 ob).mono b4'.size))) (heap_alloc_old (((b4'.block _ (Array.getElem?_eq_some_iff.1 SP13.out).1).trans SP13.out))) v; have f6 : ∀ ob, (w4.alloc ob).frozen? ⟨xb, 1, none⟩ = false := fun ob => (hwm.below (below_alloc w4 ob)).frz; obtain ⟨u6, c6⟩ := wr_c1 hwm; clear d4 l4 b4 b34 b4' hwm t14))
              all_goals
                go_wp2_with fail
                go_roundw
                case rel =>
                  have hp : Lp.getD (ch.place % (Lp.length : Int)).toNat (0, 0) = (x, yy) := by rw [HIDX.out, Int.toNat_natCast, List.getD_eq_getElem?_getD, HLK.out]; rfl
                  have hcr : chRow V.its s.val ch = [.mark (vof [(x, yy)]), dd, .mark (vof [(x, yy)])] := by
                    rw [HDD.out]
                    unfold chRow
                    dsimp only
                    rw [← HMANY.out, ← HREF.out, ← HY.out, ← HLP.out, hp, ← HSL.out]
                  have hco := chrow_over (its := V.its) s.val ch (by intro c; have h1 := HMANY.out; have h2 := HPOS.out; rw [c] at h1; simp at h1; omega)
                  have hR := HRB.out
                  rw [hcr] at hR hco
                  refine ⟨rfl, r, _, F4.out, by rw [hR]; exact (wgo_cons _ _ _ _ _).symm, by have := HR60.out; omega, fun q hq => ?_⟩
                  simp only [List.mem_cons, List.not_mem_nil, or_false] at hq
                  rcases hq with rfl | rfl | rfl
                  · exact hco _ (by simp)
                  · exact hco _ (by simp)
                  · exact hco _ (by simp)
                case measure => rw [HMS.out]; exact wmsr_lt F4.out
end Go.Proofs.YtdbgfidnccpmdaaGreat

/-
  LooksQuiet: a Look where nobody changes anything meanwhile: the walk.
-/
namespace Go.Proofs.YtdbgfidnccpmdaaGreat
open Go.RowKit Go.Maps TagPure
set_option linter.unusedVariables false

theorem adr_sl2 {w : World} {base : Nat} {v : Value} {xs : List Int} (h : Adr w base v xs) : ∃ a c, v = .slice a xs.length c := by
  rcases h with ⟨rfl, rfl⟩ | ⟨g, cur, rfl, -⟩
  · exact ⟨_, _, rfl⟩
  · exact ⟨_, _, rfl⟩
abbrev TQu (pq wb cb : Nat) (key : ByteArray) (W : World) : Prop := W.cell? ⟨pq, 3, none⟩ = some (.string key) ∧ W.cell? ⟨wb, 0, none⟩ = some (.pointer (some ⟨cb, 0, none⟩))
set_option maxRecDepth 100000 in
set_option maxHeartbeats 8000000 in
theorem lquiet_any (q : Rdg) (w : World) (hr : RdgRd w q) (hks : ∀ x ∈ q.its, x.key.size ≤ maxLen) : Calls Tryz.prog 5 #[.agg q.cells] w fun e w' => e = .returned (.bool true) ∧ Below w.heap.size w w' := by
  have hB := below_alloc w (.cells q.cells 83)
  have z := heap_alloc_new w (.cells q.cells 83)
  have HR := Lib.hid (hr.below hB); have HB := Lib.hid hB; have HZ := Lib.hid z; have HKS := Lib.hid hks
  clear hr hB z hks
  go_enter Tryz.func5, Tryz.ntmps5
  go_upto_region 1 with (fail)
  change Code.wp _ _ _ _ (w.alloc (.cells q.cells 83))
  obtain ⟨w1, hw1⟩ : ∃ w1, w1 = w.alloc (.cells q.cells 83) := ⟨_, rfl⟩
  rw [← hw1] at HR HB HZ ⊢
  clear hw1
  obtain ⟨pq, hpq⟩ : ∃ pq, pq = w.heap.size := ⟨_, rfl⟩
  rw [← hpq] at HZ ⊢
  clear hpq
  obtain ⟨c0, c1, c2, c3, c4, c5⟩ := rdg_cells HZ.out
  have hgr := rgreat_any q w1 HR.out
  unfold RGPost at hgr
  go_upto_if 18 with (go_at_call 28; refine hgr.mono ?_; intro e w2 hh; obtain ⟨g, hh1, b2, hg⟩ := hh; subst hh1; have B2 := Lib.hid b2; have HG := Lib.hid hg; clear b2 hg hgr c0 c1 c2 c3 c4 c5; cases g)
  rotate_left
  · go_wp2_with (go_at_call 19; refine (lives14 _).mono ?_; rintro e w3 ⟨rfl, b3⟩)
    go_ret
    have h1 := HB.out.trans (B2.out.mono HB.out.size)
    exact ⟨rfl, h1.trans (b3.mono h1.size)⟩
  obtain ⟨hil, hcl, -⟩ := HG.out trivial
  have hr2 := HR.out.below B2.out
  have HB2 := Lib.hid (HB.out.trans (B2.out.mono HB.out.size))
  have hz2 := (B2.out.block _ (Array.getElem?_eq_some_iff.1 HZ.out).1).trans HZ.out
  have HZ2 := Lib.hid hz2
  obtain ⟨c0, c1, c2, c3, c4, c5⟩ := rdg_cells hz2
  have hbg := rbegin_any q w2 hr2 hil
  unfold RBPost at hbg
  have HR2 := Lib.hid hr2
  have HIL := Lib.hid hil; have HCL := Lib.hid hcl
  clear hr2 hz2 hil hcl HG B2 HB HR HZ
  go_upto_region 6 with (go_at_call 29; refine hbg.mono ?_; intro e w3 hh; obtain ⟨w0, B, hbw, hh1, hf⟩ := hh; subst hh1; have HWS := Lib.hid hf; have HBW := Lib.hid hbw; clear hbg hf hbw c0 c1 c2 c3 c4 c5)
  obtain ⟨s0, hs0⟩ : ∃ s0, s0 = CS.init [(2, tword (rbits q) 0)] := ⟨_, rfl⟩
  obtain ⟨V, hV⟩ : ∃ V : WV, V = { v0 ⟨rbits q, 8, 3, 1, 16⟩ with its := q.its } := ⟨_, rfl⟩
  rw [← hs0, ← hV] at HWS
  have HV := Lib.hid (show V.its = q.its ∧ V.nts = [] by rw [hV]; exact ⟨rfl, rfl⟩)
  have hbi : 1 ≤ rbits q ∧ rbits q ≤ 6 := by unfold rbits; omega
  have HS0 : Hid (EvenV s0.val ∧ s0.n ≤ 10 ∧ s0.cnt ≤ 10) := by
    rw [hs0]
    refine ⟨fun a h1 h2 => ?_, Nat.le_of_ble_eq_true rfl, Nat.le_of_ble_eq_true rfl⟩
    show (if a = 2 then tword (rbits q) 0 else 0) % 2 = 0
    rw [if_neg (by omega)]; rfl
  have HBB := Lib.hid (HB2.out.trans (HBW.out.mono HB2.out.size))
  have hz0 := (HBW.out.block _ (Array.getElem?_eq_some_iff.1 HZ2.out).1).trans HZ2.out
  have HZF := Lib.hid (fun (W : World) (hW : Below w0.heap.size w0 W) => show W.cell? ⟨pq, 3, none⟩ = some (.string q.key) from (rdg_cells ((hW.block _ (Array.getElem?_eq_some_iff.1 hz0).1).trans hz0)).2.2.2.1)
  have HCH := Lib.hid (HR2.out.chs.below HBW.out)
  have HKY := Lib.hid HR2.out.key
  have c2 : w3.cell? ⟨pq, 2, none⟩ = some (.slice q.ca q.chs.length q.cc) := (rdg_cells ((HWS.out.below.block _ (Array.getElem?_eq_some_iff.1 hz0).1).trans hz0)).2.2.1
  clear hs0 hV hbi hz0 HB2 HZ2 HBW HR2
  -- the writer
  go_upto_region 7 with (fail)
  have hbA := below_alloc w3 (.cells #[.slice q.ca q.chs.length q.cc, .slice none 0 0] 88)
  have hzA := heap_alloc_new w3 (.cells #[.slice q.ca q.chs.length q.cc, .slice none 0 0] 88)
  have H4 := HWS.out.keep hbA
  change Code.wp _ _ _ _ (w3.alloc (.cells #[.slice q.ca q.chs.length q.cc, .slice none 0 0] 88))
  have HM4 : Hid (WMB w0 (w3.alloc (.cells #[.slice q.ca q.chs.length q.cc, .slice none 0 0] 88)) (w3.alloc (.cells #[.slice q.ca q.chs.length q.cc, .slice none 0 0] 88)) B V s0 [w3.heap.size] w3.heap.size q.chs []) := Lib.hid ⟨H4, ⟨HWS.out.below.size, ⟨_, _, _, hzA, HCH.out, none, 0, rfl, Nat.le_refl _, Nat.zero_le _, .inl rfl⟩, (fun q hq => by cases hq), List.nodup_nil⟩, FS.refl _ _, .inl (List.mem_singleton.2 rfl), (fun q hq => by cases hq)⟩
  have HSZ := Lib.hid H4.below.size
  clear hbA hzA H4 c2 HWS
  generalize w3.alloc (.cells #[.slice q.ca q.chs.length q.cc, .slice none 0 0] 88) = w4 at *
  generalize w3.heap.size = xb at *
  go_wp2_with fail
  go_loopw [5] (fun v5 wr => ∃ (k : Nat) (s' : CS) (lf : List Chg) (qs : List (Nat × Dg)), v5 = .int .i64 k ∧ WMB w0 w4 wr B V s' [xb] xb lf qs ∧ WPh s'.val (qs.map Prod.snd) ∧ 5 * lf.length + rcost (qs.map Prod.snd) + k ≤ 300 ∧ s'.n ≤ 10 + k ∧ s'.cnt ≤ 10 + k ∧ lf.length ≤ 60) (fun i _ => 1000 - (intOf i).toNat)
  case atStart => exact ⟨0, s0, q.chs, [], rfl, HM4.out, .z _ HS0.out.1, by have := HCL.out; simp [rcost]; omega, by have := HS0.out; omega, by have := HS0.out; omega, HCL.out⟩
  case round =>
    clear HM4 HS0
    obtain ⟨k, s', lf, qs, rfl, hm, hph, hco, hn, hc, hlf⟩ := hrel
    have hk : (k : Int) < 1000 := by omega
    have hst := wrstep_any hm HSZ.out (CS.room_of 400 (by omega) (by unfold lim; decide)) (by rw [HV.out.1]; exact HIL.out) (by rw [HV.out.1]; exact HKS.out) hlf (fun x hx => hph.over _ (List.mem_map.2 ⟨x, hx, rfl⟩))
    unfold WSPost at hst
    have hlw := wgo_law V.its s' lf (qs.map Prod.snd) hph
    obtain ⟨R, hR⟩ : ∃ R, R = wgo V.its s' lf (qs.map Prod.snd) := ⟨_, rfl⟩
    rw [← hR] at hst hlw
    have HN := Lib.hid (And.intro hco (And.intro hn hc)); have HLW := Lib.hid hlw
    have HK := Lib.hid hk
    clear hm hph hco hn hc hlf hR hlw
    rcases HLW.out with hnx | ⟨hfin, hev⟩
    · rw [hnx.is] at hst
      have HNX := Lib.hid hnx
      clear hnx HLW
      go_wp2_with (go_at_call 30; refine hst.mono ?_; intro e w5 hh; obtain ⟨qs', hh1, h5, hq5⟩ := hh; subst hh1; have H5 := Lib.hid h5; have HQ5 := Lib.hid hq5; clear h5 hq5 hst)
      go_roundw
      case rel =>
        have h1 := HNX.out; have h2 := HN.out; have h3 := h1.cost; have h4 := h1.n; have h5 := h1.cnt
        exact ⟨k + 1, _, _, qs', by have := HK.out; go_num, H5.out, by rw [HQ5.out]; exact h1.ph, by rw [HQ5.out]; omega, by omega, by omega, by omega⟩
      case measure => have := HK.out; have := HN.out; simp [intOf]; omega
    · rw [hfin] at hst
      have HEV := Lib.hid hev
      clear hfin hev HLW
      go_upto_region 10 with (go_at_call 30; refine hst.mono ?_; intro e w5 hh; obtain ⟨qs', hh1, h5, hq5⟩ := hh; subst hh1; have H5 := Lib.hid h5.ws; clear h5 hq5 hst)
      have hb0 : Below w5.heap.size w5 w5.drew := (Below.refl _ _).drew
      have H6 := Lib.hid (H5.out.keep hb0)
      have t6 : TQu pq B.wb B.cb q.key w5.drew := ⟨HZF.out _ H6.out.below, H6.out.c0⟩
      obtain ⟨ha0, ha1⟩ := hfold_bd q.key q.key.size
      have hH := Lib.hid (fun W => hash_big q.key HKY.out W)
      have hP := Lib.hid (fun W => places_any (hashOf q.key) (s'.val 2) ha0 ha1 (H5.out.own.wf 2) W)
      have hpk := Lib.hid (fun (W : World) (h : WS w0 W B V s') => h.peek 2 (by decide))
      clear ha0 ha1 hb0 H5
      go_region_held2 (fun W => TQu pq B.wb B.cb q.key W) (assumption) (first
        | (go_at_call 32; refine (hH.out _).mono ?_; intro e w7 hh; obtain ⟨hh1, b7⟩ := hh; subst hh1; have h7 := H6.out.keep b7; have H7 := Lib.hid h7; have t7 : TQu pq B.wb B.cb q.key w7 := ⟨HZF.out _ h7.below, h7.c0⟩; have hpk7 := hpk.out w7 h7; clear b7 h7 t6)
        | (go_at_call 33; refine hpk7.mono ?_; intro e w' hh; obtain ⟨hh1, hh2⟩ := hh; subst hh1; obtain rfl := hh2.symm; clear hpk7)
        | (go_at_call 31; refine (hP.out _).mono ?_; intro e w8 hh; obtain ⟨pv, hh1, hp, b8⟩ := hh; subst hh1; have h8 := H7.out.keep b8; have H8 := Lib.hid h8; have t8 : TQu pq B.wb B.cb q.key w8 := ⟨HZF.out _ h8.below, h8.c0⟩; obtain ⟨ao, hpv, hplc⟩ := hp.plc; subst hpv; have HPC := Lib.hid hplc; clear b8 hp hplc h8 t7))
      clear t8 hH hP hpk H6 H7
      have hplen := plist_len (hashOf q.key) (s'.val 2)
      obtain ⟨L, hL⟩ : ∃ L, L = plist (hashOf q.key) (s'.val 2) := ⟨_, rfl⟩
      rw [← hL] at HPC hplen ⊢
      have hqs := fun vb => quiet_sum V s' q.key vb HEV.out (by have := HN.out; omega)
      rw [← hL] at hqs
      have HQS := Lib.hid hqs; have HL := Lib.hid hL; have HLEN := Lib.hid hplen
      have hof := of_any L ao L.length w8 HPC.out (by omega)
      clear hqs hL
      go_upto_region 12 with (go_at_call 34; refine hof.mono ?_; intro e w9 hh; obtain ⟨v, hh1, ha, b9⟩ := hh; subst hh1; obtain ⟨va, vc, hva⟩ := adr_sl2 ha; subst hva; have H9 := Lib.hid (H8.out.keep b9); clear ha b9 hof)
      have hvl := vof_len L
      have HVL := Lib.hid hvl
      have c2 := H9.out.hd5.2.2.1
      have c3 : w9.cell? ⟨pq, 3, none⟩ = some (.string q.key) := HZF.out _ H9.out.below
      have hnc := lcount_any H9.out.nt
      rw [show (V.nts.length : Int) = 0 by rw [HV.out.2]; rfl] at hnc
      have hnl := fun W => newlook_big q.key HKY.out W
      clear H8 HPC
      go_upto_region 14 with (first
        | (go_at_call 35; refine hnc.mono ?_; intro e w' hh; obtain ⟨hh1, hh2⟩ := hh; subst hh1; obtain rfl := hh2.symm; clear hnc c2)
        | (go_at_call 20; refine (hnl _).mono ?_; intro e w10 hh; obtain ⟨fb, hh1, a10, b10⟩ := hh; subst hh1; have H10 := Lib.hid (H9.out.keep b10); have A10 := Lib.hid a10; clear a10 b10 hnl c3))
      obtain ⟨n, s2, x2, r, pt, e1, e2, e3, e4, e5, e6, hsm⟩ := HQS.out fb
      have hrun := lrun (x := ⟨q.key, hashOf q.key, 0, .fst, 0, [], [], 0, [], 0, 0, 0, false, fb⟩) 60 (by decide) 400 (by have := HN.out; omega) (by unfold lim; decide) H10.out (LookAt.e (A10.out.lower H9.out.below.size)) (LOk.new q.key 0 (by omega) fb) (by rw [HV.out.1]; have := HIL.out; omega) (by rw [HV.out.2]; exact Nat.zero_le _) (by rw [HV.out.2]; exact fun x hx => by cases hx)
      rw [e1] at hrun
      have E := Lib.hid (And.intro e2 (And.intro e3 (And.intro e4 (And.intro e5 e6)))); have QS := Lib.hid hsm
      clear e1 e2 e3 e4 e5 e6 hsm HQS H9 A10 hvl hplen
      go_upto_region 15 with (go_at_call 36; refine hrun.mono ?_; intro e w11 hh; obtain ⟨hh1, h11, x11⟩ := hh; subst hh1; have H11 := Lib.hid h11; have X11 := Lib.hid x11; clear h11 x11 hrun)
      clear H10
      have hgt := lgotE X11.out
      have hx2 : x2.got = (r, x2.ep, pt) := by unfold LK.got; rw [if_pos ⟨E.out.2.1, E.out.2.2.1⟩, E.out.2.2.2.1, E.out.2.2.2.2]
      rw [hx2] at hgt
      have hfl := Lib.hid (fun (W : World) (h : LookE W w0.heap.size fb x2) => lfailsE h)
      clear hx2
      have hv2 : s2.val = s'.val := E.out.1
      have hrd := Lib.hid (fun (W : World) (h : WS w0 W B V s2) => readat_any h q.key HKY.out (by rw [HV.out.1]; have := HIL.out; omega) (by rw [hv2, ← HL.out]; exact HLEN.out))
      rw [hv2, ← HL.out] at hrd
      generalize x2.ep = ep at *
      obtain ⟨A, hA⟩ : ∃ A, A = atL V.its s'.val q.key L L.length := ⟨_, rfl⟩
      rw [← hA] at hrd
      have hal : A.length ≤ 4 * L.length := by rw [hA]; exact atL_len _ _ _ _ _
      have HA := Lib.hid hA; have HAL := Lib.hid hal
      clear hA hal hv2
      go_upto_region 16 with (go_at_call 37; refine hgt.mono ?_; intro e w12 hh; obtain ⟨hh1, b12⟩ := hh; subst hh1; have H12 := Lib.hid (H11.out.keep b12); have X12 := Lib.hid (X11.out.below b12); clear b12 hgt)
      clear H11 X11
      have c3 : w12.cell? ⟨pq, 3, none⟩ = some (.string q.key) := HZF.out _ H12.out.below
      have hra := hrd.out w12 H12.out
      unfold AtPost at hra
      go_upto_region 17 with (go_at_call 38; refine hra.mono ?_; intro e w13 hh; obtain ⟨v, hh1, hro, b13⟩ := hh; subst hh1; obtain ⟨va2, vc2, hva2⟩ := own_sl2 hro; subst hva2; have H13 := Lib.hid (H12.out.keep b13); have X13 := Lib.hid (X12.out.below b13); clear hro b13 hra c3)
      clear H12 X12 hrd
      have hf13 := hfl.out w13 X13.out
      rw [E.out.2.2.1] at hf13
      have c2 := H13.out.hd5.2.2.1
      have hnc := lcount_any H13.out.nt
      rw [show (V.nts.length : Int) = 0 by rw [HV.out.2]; rfl] at hnc
      have hit := H13.out.iat5 (by rw [HV.out.1]; have := HIL.out; omega) r
      have hq := QS.out
      obtain ⟨vS, hvS⟩ : ∃ vS, vS = (vof L).length := ⟨_, rfl⟩
      obtain ⟨nL, hnL⟩ : ∃ nL, nL = L.length := ⟨_, rfl⟩
      obtain ⟨nA, hnA⟩ : ∃ nA, nA = A.length := ⟨_, rfl⟩
      have b1 : vS ≤ 4 := by rw [hvS]; have h1 := HVL.out; have h2 := HLEN.out; omega
      have b2 : nL ≤ 4 := by rw [hnL]; exact HLEN.out
      have b3 := hq.n60
      have b4 : nA ≤ 16 := by rw [hnA]; have h1 := HAL.out; have h2 := HLEN.out; omega
      have l1 := hq.lo; have l2 := hq.hi; have l3 := hq.ptl; have l4 := hq.cs
      rw [← hvS] at l1 l2
      rw [← hnL] at l2
      rw [← hvS, ← hnL, ← hnA]
      have d1 : decide ((n : Int) < 4 + 2 * (vS : Int)) = false := decide_eq_false (by omega)
      have d2 : decide (3 + 2 * (vS : Int) + 5 * (nL : Int) < (n : Int)) = false := decide_eq_false (by omega)
      have d0 : (pt == 0) = false := beq_eq_false_iff_ne.2 (by omega)
      have B1 : (vS : Int) ≤ 4 := by omega
      have B2 : (nL : Int) ≤ 4 := by omega
      have B3 : (n : Int) ≤ 60 := by omega
      have B4 : (nA : Int) ≤ 16 := by omega
      have HHA := Lib.hid hnA; have HHL := Lib.hid hnL
      have HRQ := Lib.hid (show r = 0 ∧ nA = 0 ∧ 3 + 2 * vS + nL ≤ n ∨ 1 ≤ r ∧ r ≤ 30 ∧ nA ≠ 0 ∧ (atOf V.its r).2 = true ∧ (atOf V.its r).1.key = q.key from by
        rcases l4 with ⟨g1, g2, g3⟩ | ⟨g1, g2, g3, g4, g5⟩
        · exact .inl ⟨g1, by rw [hnA, HA.out, g2]; rfl, by rw [hvS, hnL]; exact g3⟩
        · exact .inr ⟨g1, by rw [HV.out.1] at g2; have := HIL.out; omega, by rw [hnA, HA.out]; intro c; exact g3 (List.eq_nil_of_length_eq_zero c), g4, g5⟩)
      clear hq hvS hnL hnA b1 b2 b3 b4 l1 l2 l3 l4
      have HD := Lib.hid (And.intro d1 (And.intro d2 d0))
      rcases HRQ.out with ⟨r0, a0, n3⟩ | ⟨r1, r2, a1, i1, i2⟩
      · -- nothing is there
        subst r0
        subst a0
        have d3 : decide ((n : Int) < 3 + 2 * (vS : Int) + (nL : Int)) = false := decide_eq_false (by omega)
        rw [show atOf V.its 0 = (Itm.zero, false) by unfold atOf; rw [if_neg (by omega)]] at hit
        clear HRQ n3
        go_upto_region 21 with (first
          | (go_at_call 39; refine hf13.mono ?_; intro e w' hh; obtain ⟨hh1, hh2⟩ := hh; subst hh1; obtain rfl := hh2.symm; clear hf13)
          | (go_at_call 35; refine hnc.mono ?_; intro e w' hh; obtain ⟨hh1, hh2⟩ := hh; subst hh1; obtain rfl := hh2.symm; clear hnc c2))
        clear d0 d1 d2 d3
        have c1 := H13.out.hd5.2.1
        go_upto_region 22 with (go_at_call 40; refine hit.mono ?_; intro e w14 hh; obtain ⟨hh1, b14⟩ := hh; subst hh1; have H14 := Lib.hid (H13.out.keep b14); clear b14 hit c1)
        have hbA := below_alloc w14 (.cells Itm.zero.cells.toArray 52)
        have H15 := Lib.hid (H14.out.keep hbA)
        change Code.wp _ _ _ _ (w14.alloc (.cells Itm.zero.cells.toArray 52))
        clear hbA
        generalize w14.alloc (.cells Itm.zero.cells.toArray 52) = w15 at *
        go_wp2_with (go_at_call 19; refine (lives14 _).mono ?_; rintro e w16 ⟨rfl, b16⟩)
        go_ret
        have h1 := HBB.out.trans (H15.out.below.mono HBB.out.size)
        exact ⟨rfl, h1.trans (b16.mono h1.size)⟩
      · -- an item is there
        have dr0 : (r == 0) = false := beq_eq_false_iff_ne.2 (by omega)
        have dr1 : decide (0 < r) = true := decide_eq_true (by omega)
        have dA : ((nA : Int) == 0) = false := beq_eq_false_iff_ne.2 (by omega)
        have dAn : (nA == 0) = false := beq_eq_false_iff_ne.2 a1
        obtain ⟨y, hy⟩ : ∃ y, y = (atOf V.its r).1 := ⟨_, rfl⟩
        rw [← hy] at hit i2
        rw [i1] at hit
        have hke : (y.key.toList == q.key.toList) = true := by rw [i2]; exact beq_iff_eq.2 rfl
        clear HRQ a1 i1 i2 r1 r2 hy
        go_upto_region 21 with (first
          | (go_at_call 39; refine hf13.mono ?_; intro e w' hh; obtain ⟨hh1, hh2⟩ := hh; subst hh1; obtain rfl := hh2.symm; clear hf13)
          | (go_at_call 35; refine hnc.mono ?_; intro e w' hh; obtain ⟨hh1, hh2⟩ := hh; subst hh1; obtain rfl := hh2.symm; clear hnc c2))
        clear d0 d1 d2 dA dAn
        have c1 := H13.out.hd5.2.1
        go_upto_region 22 with (go_at_call 40; refine hit.mono ?_; intro e w14 hh; obtain ⟨hh1, b14⟩ := hh; subst hh1; have H14 := Lib.hid (H13.out.keep b14); clear b14 hit c1)
        have hbA := below_alloc w14 (.cells y.cells.toArray 52)
        have hzA := heap_alloc_new w14 (.cells y.cells.toArray 52)
        have H15 := Lib.hid (H14.out.keep hbA)
        have k0 : (w14.alloc (.cells y.cells.toArray 52)).cell? ⟨w14.heap.size, 0, none⟩ = some (.string y.key) := hcell hzA 0
        change Code.wp _ _ _ _ (w14.alloc (.cells y.cells.toArray 52))
        clear hbA hzA
        generalize w14.alloc (.cells y.cells.toArray 52) = w15 at *
        generalize w14.heap.size = py at *
        have c3 : w15.cell? ⟨pq, 3, none⟩ = some (.string q.key) := HZF.out _ H15.out.below
        go_wp2_with (go_at_call 19; refine (lives14 _).mono ?_; rintro e w16 ⟨rfl, b16⟩)
        go_ret
        have h1 := HBB.out.trans (H15.out.below.mono HBB.out.size)
        exact ⟨rfl, h1.trans (b16.mono h1.size)⟩
set_option maxRecDepth 10000 in
theorem walkLooksQuiet {H1 : Type} (w : World) (enc : TypeId × Value → H1) (base : Nat) (v : Value) (d : DataW H1) (p : List MemPlace) (k : DataW.Trod enc Tryz.prog w 0 (fun _ => true) true 83 v d p) (o : Value.okWide Tryz.prog w .any base 83 v) :
    Calls Tryz.prog 5 #[v] w fun e w' => e = .returned (.bool true) ∧ Below w.heap.size w w' := by
  obtain ⟨q, rfl, hr, hk⟩ := rdg_openK k o
  exact lquiet_any q w hr hk
end Go.Proofs.YtdbgfidnccpmdaaGreat
