/-
  A history as the document has it (nestboxlaw34.Other): the walk.
-/
import Derived.Test.YtmagpbbjjkmbpaaHistRefX
import Derived.Test.YtmagpbbjjkmbpaaHistRefW
namespace Go.Proofs.Ytmagpbbjjkmbpaa
open Go.RowKit Go.Maps Go.Sort
set_option linter.unusedVariables false

section
variable {P : Program} {ops : Array Oper} {D : World → Prop}
theorem tailM_call {Q : Exit → Act → World → Prop} {i : Nat} {r t2 : List Nat} {o : Oper} {a : Act} {w : World} (hi : ops[i]? = some o) (hg : o.guard = none) (f : FuncId) (args : Array Value) (hrun : (execOp a.eval o).run P w = .ok (.enter f args) w)
    (h : Calls P f args w fun e w' => ∃ v, e = .returned v ∧ D w' ∧ tailM P ops D Q t2 r (a.put o.dst v) w') : tailM P ops D Q t2 (i :: r) a w := by
  refine tailM_op hi hg ?_
  unfold Oper.wp
  rw [hrun]
  simp only [Oper.upon]
  refine h.mono fun e w' ⟨v, he, hD, ht⟩ => ?_
  subst he
  exact ⟨hD, ht⟩
end
theorem hcs_ownT {w : World} {base cap T : Nat} {a : Option Addr} {l : List HC} (h : w.ownsRow base T 20 (.slice a l.length cap) l.length (flatC l)) (hw : ∀ x ∈ l, x.wf) : HCs w a cap l := by
  obtain ⟨h1, ⟨e, h0⟩ | ⟨g, cap', cur, e, hb, hg, hn, hm, hs, ht⟩⟩ := h
  · simp only [Value.slice.injEq] at e
    have : l = [] := List.length_eq_zero_iff.1 h0
    subst this
    exact ⟨Nat.zero_le _, by rw [e.2.2]; exact Nat.zero_le _, fun _ => e.2.2, hw, .inl rfl⟩
  · simp only [Value.slice.injEq] at e
    obtain ⟨rfl, -, rfl⟩ := e
    refine ⟨hn, hm, fun c => (by cases c), hw, .inr ⟨g, 0, rfl, fun i hi j hj => ?_⟩⟩
    rw [hblk hg, ← flatC_at l i hi j hj, ← ht, List.getElem?_take, if_pos (by omega)]
    simp
theorem hds_ownT {w : World} {base cap T : Nat} {a : Option Addr} {l : List HD} (h : w.ownsRow base T 7 (.slice a l.length cap) l.length (flatD l)) (hw : ∀ x ∈ l, x.wf) : HDs w a cap l := by
  obtain ⟨h1, ⟨e, h0⟩ | ⟨g, cap', cur, e, hb, hg, hn, hm, hs, ht⟩⟩ := h
  · simp only [Value.slice.injEq] at e
    have : l = [] := List.length_eq_zero_iff.1 h0
    subst this
    exact ⟨Nat.zero_le _, by rw [e.2.2]; exact Nat.zero_le _, fun _ => e.2.2, hw, .inl rfl⟩
  · simp only [Value.slice.injEq] at e
    obtain ⟨rfl, -, rfl⟩ := e
    refine ⟨hn, hm, fun c => (by cases c), hw, .inr ⟨g, 0, rfl, fun i hi j hj => ?_⟩⟩
    rw [hblk hg, ← flatD_at l i hi j hj, ← ht, List.getElem?_take, if_pos (by omega)]
    simp
theorem info_rdrop : (Try.prog.info? 97).map (fun i => (i.zero, i.size, i.bytes)) = some (some (.agg #[.int .i64 0, .string ⟨#[]⟩, .string ⟨#[]⟩, .int .u32 0, .int .u64 0, .int .i64 0, .int .i64 0]), 7, 72) := by kernel_rfl
theorem flatC_take (l : List HC) (k : Nat) (x : HC) (h : l[k]? = some x) : flatC (l.take (k + 1)) = flatC (l.take k) ++ x.cells := by rw [List.take_add_one, h]; simp [flatC]
theorem flatD_take (l : List HD) (k : Nat) (x : HD) (h : l[k]? = some x) : flatD (l.take (k + 1)) = flatD (l.take k) ++ x.cells := by rw [List.take_add_one, h]; simp [flatD]
def OtherPost (h : Hst) (w : World) (e : Ending) (w' : World) : Prop := ∃ r : Hst, e = .returned (.agg r.cells) ∧ r.cs = h.cs ∧ r.ds = h.ds ∧ HstRd w' r ∧ Below w.heap.size w w'
set_option maxRecDepth 100000 in
set_option maxHeartbeats 8000000 in
theorem other_any (h : Hst) (w : World) (hr : HstRd w h) (h1 : h.cs.length ≤ 120) (h2 : h.ds.length ≤ 60) :
    Calls Try.prog 9 #[.agg #[.slice h.ca h.cs.length h.cc, .slice h.da h.ds.length h.dc]] w (OtherPost h w) := by
  obtain ⟨i0, hi0, hz0, hz1, hz2⟩ := info_parts3 info_rcalled
  have HI := Lib.hid hi0; have HZ0 := Lib.hid hz0; have HZ1 := Lib.hid hz1; have HZ2 := Lib.hid hz2
  obtain ⟨j0, hj0, hk0, hk1, hk2⟩ := info_parts3 info_rdrop
  have JI := Lib.hid hj0; have JZ0 := Lib.hid hk0; have JZ1 := Lib.hid hk1; have JZ2 := Lib.hid hk2
  clear hi0 hz0 hz1 hz2 hj0 hk0 hk1 hk2
  have HR := Lib.hid hr
  have hc0 : (h.cs.length : Int) ≤ 120 := by omega
  have H1 := Lib.hid h1; have H2 := Lib.hid h2
  clear hr h1 h2
  go_enter Try.func9, Try.ntmps9
  go_upto_region 1 with (fail)
  obtain ⟨wa, hwa⟩ : ∃ wa, wa = w.alloc (.cells h.cells 25) := ⟨_, rfl⟩
  obtain ⟨wb, hwb⟩ : ∃ wb, wb = wa.alloc (.cells #[.slice none 0 0, .slice none 0 0] 32) := ⟨_, rfl⟩
  change Code.wp _ _ _ _ ((w.alloc (.cells h.cells 25)).alloc (.cells #[.slice none 0 0, .slice none 0 0] 32))
  rw [← hwa, ← hwb]
  have sa : wa.heap.size = w.heap.size + 1 := by rw [hwa]; simp
  have sb : wb.heap.size = w.heap.size + 2 := by rw [hwb]; simp; omega
  have za : wa.heap[w.heap.size]? = some (.cells h.cells 25 (0, 0)) := by rw [hwa]; exact heap_alloc_new w _
  have ba : Below w.heap.size w wa := by rw [hwa]; exact hballoc w _
  have bb : Below wa.heap.size wa wb := by rw [hwb]; exact hballoc wa _
  have zb : wb.heap[w.heap.size + 1]? = some (.cells #[.slice none 0 0, .slice none 0 0] 32 (0, 0)) := by rw [← sa, hwb]; exact heap_alloc_new wa _
  have HZ := Lib.hid ((bb.block w.heap.size (by omega)).trans za)
  have HZB := Lib.hid zb
  have HB := Lib.hid (ba.trans (bb.mono (by omega)))
  have HR1 := Lib.hid (HR.out.below HB.out)
  have HSB := Lib.hid sb
  clear hwa hwb sa sb za ba bb zb
  go_upto_region 2 with (fail)
  change Code.wp _ _ _ _ (wb.alloc (.cells #[.slice none 0 0, .slice none 0 0] 32))
  have hpq : wb.heap.size = w.heap.size + 2 := HSB.out
  obtain ⟨wc, hwc⟩ : ∃ wc, wc = wb.alloc (.cells #[.slice none 0 0, .slice none 0 0] 32) := ⟨_, rfl⟩
  rw [← hwc]
  have bc : Below wb.heap.size wb wc := by rw [hwc]; exact hballoc wb _
  have zc : wc.heap[wb.heap.size]? = some (.cells #[.slice none 0 0, .slice none 0 0] 32 (0, 0)) := by rw [hwc]; exact heap_alloc_new wb _
  have sc : wc.heap.size = wb.heap.size + 1 := by rw [hwc]; simp
  have HBC := Lib.hid bc; have HZC := Lib.hid zc; have HSC := Lib.hid sc
  clear hwc bc zc sc hpq
  go_wp2_with fail
  go_loopw [4] (fun i wr => ∃ (k : Nat) (v1 : Value), k ≤ h.cs.length ∧ i = .int .i64 k ∧ Hid (wr.heap[wb.heap.size]? = some (.cells #[v1, .slice none 0 0] 32 (0, 0)) ∧ wr.ownsRow wb.heap.size 55 20 v1 k (flatC (h.cs.take k))) ∧ Hid (Below wb.heap.size wb wr)) (fun i _ => h.cs.length - (intOf i).toNat)
  case atStart => exact ⟨0, _, by omega, rfl, Lib.hid ⟨HZC.out, World.ownsRow_nil _ _ _ _⟩, HBC⟩
  case round =>
    obtain ⟨k, v1, hk, rfl, PW, HBW⟩ := hrel
    have c0 : wr.cell? ⟨w.heap.size, 0, none⟩ = some (.slice h.ca h.cs.length h.cc) := hblk ((HBW.out.block _ (Array.getElem?_eq_some_iff.1 HZ.out).1).trans HZ.out) 0
    have HS1 := Lib.hid HBW.out.size
    by_cases hlt : k < h.cs.length
    · have hlt' : (k : Int) < h.cs.length := by omega
      obtain ⟨b, off, x, cl, hca, hx, hcl, hsz, h1c, hld⟩ := (HR1.out.cs.below HBW.out).whole k hlt
      have hi20 : (Try.prog.info? 57).map (·.size) = some cl.length := by rw [hsz]; kernel_rfl
      have HX := Lib.hid hx; have HLT := Lib.hid hlt; have H1C := Lib.hid h1c; have HLD := Lib.hid hld; have HI20 := Lib.hid hi20; have HSZ := Lib.hid hsz; have HCL := Lib.hid hcl
      rw [hca] at c0
      clear hca hx hlt hk h1c hld hcl hsz hi20
      obtain ⟨ao, acap, hv1⟩ := own_sl34 PW.out.2
      have HV1 := Lib.hid hv1
      have c7 : wr.cell? ⟨wb.heap.size, 0, none⟩ = some v1 := hblk PW.out.1 0
      rw [hv1] at c7
      clear hv1
      go_upto_region 5 with (fail)
      have y7 := fun st : ExtW wr => st.cell c7
      have y0 := fun st : ExtW wr => st.cell c0
      clear c7 c0
      refine wp_region_mix (D := fun W => ∃ s : ExtW wr, W = s.val) [0, 1, 2, 3, 4, 5, 6] [7, 8] 9 [10, 11] (by kernel_rfl) (by kernel_rfl) (by kernel_rfl) (by kernel_rfl) (by decide) (by kernel_rfl) (by kernel_rfl) (fun c d v a w h => by cases d <;> exact h) ⟨⟨_, (Below.refl _ _).drew⟩, rfl⟩ ?_
      simp only [pickL_cons, pickL_nil, List.drop_succ_cons, List.drop_zero, List.take_succ_cons, List.take_zero, List.cons_append, List.nil_append]
      iterate 6 (go_big_quiet_step (fail))
      refine wpQuiet_mid rfl 57 (.tmp 18) rfl b (off + k * 20) rfl cl _ (fun w hw => by obtain ⟨⟨W2, hW⟩, rfl⟩ := hw; exact range_below HLD.out hW) Try.underlying57 rfl HI20.out ?_
      go_frame
      refine wpQuiet_nil ?_
      clear y7 y0
      have HOC := Lib.hid (othercall_any x wr.drew)
      rw [← HCL.out] at HOC
      refine tailM_call rfl rfl 16 #[.agg cl.toArray] (by kernel_rfl) ?_
      refine HOC.out.mono ?_
      intro e w4 hh
      obtain ⟨hh1, hb4⟩ := hh
      subst hh1
      have HB4 := Lib.hid (show Below wr.heap.size wr w4 from ((Below.refl _ _).drew).trans hb4)
      have PW4 : Hid (w4.heap[wb.heap.size]? = some (.cells #[v1, .slice none 0 0] 32 (0, 0)) ∧ w4.ownsRow wb.heap.size 55 20 v1 k (flatC (h.cs.take k))) := Lib.hid ⟨(HB4.out.block _ (Array.getElem?_eq_some_iff.1 PW.out.1).1).trans PW.out.1, own_bel PW.out.2 HB4.out⟩
      have HBW4 := Lib.hid (HBW.out.trans (HB4.out.mono HS1.out))
      clear hb4 PW HBW
      refine ⟨_, rfl, ⟨⟨_, HB4.out⟩, rfl⟩, ?_⟩
      simp only [List.getElem_toArray, List.getElem_cons_succ, List.getElem_cons_zero]
      go_frame
      refine tailM_op rfl rfl ?_
      refine wp_buildSlice 29 55 1 #[(0, .tmp 20)] rfl cl.toArray i0 _ Try.underlying29 HI.out HZ0.out (by rw [HZ1.out]; decide) (by rw [HZ1.out]; decide) ?hf ?_
      case hf =>
        rw [HZ1.out]
        simp only [List.map_toArray, List.map_cons, List.map_nil]
        refine fill_one _ cl 20 HSZ.out ?_
        simp
      refine ⟨⟨⟨_, HB4.out.alloc HB4.out.size _⟩, rfl⟩, ?_⟩
      simp only [List.getElem_toArray, List.getElem_cons_succ, List.getElem_cons_zero]
      go_frame
      change tailE Try.prog _ _ [9, 10, 11] _ _
      refine tailE_op rfl rfl ?_
      have hsw := HBW4.out.size
      have hlt3 := HLT.out
      have hh1 := H1.out
      refine wp_append_lies _ (.tmp 14) (.tmp 21) 29 rfl wb.heap.size 55 i0 _ 20 192 Try.underlying29 HI.out HZ0.out HZ1.out HZ2.out rfl (by decide) v1 _ _ (by rw [HV1.out]; rfl) (PW4.out.2.alloc _) ⟨w4.heap.size, 0, none⟩ 1 1 cl rfl (by rw [HSZ.out]) (by have h1 := World.news_of_block (fr := (0, 0)) (t := 55) (cs := cl.toArray) (heap_alloc_new w4 _); simpa using h1) (fun u hu => (Array.all_eq_true_iff_forall_mem.1 H1C.out) u (by simpa using hu)) (by decide) (by unfold maxLen; omega) (by omega) (by simp; omega) _ rfl ?_
      intro g cap w5 hown hgrow hat hlt5
      simp only [List.getElem_toArray, List.getElem_cons_succ, List.getElem_cons_zero]
      go_frame
      have HO5 := Lib.hid hown; have HG5 := Lib.hid hgrow
      clear hown hgrow hat hlt5 hsw hlt3 hh1
      refine tailE_op rfl rfl ?_
      go_simp
      have HW5 := Lib.hid (HBW4.out.alloc (o := .cells cl.toArray 55) HBW4.out.size)
      have hq4 : (w4.alloc (.cells cl.toArray 55)).heap[wb.heap.size]? = some (.cells #[v1, .slice none 0 0] 32 (0, 0)) := ((hballoc w4 _).block _ (Array.getElem?_eq_some_iff.1 PW4.out.1).1).trans PW4.out.1
      have hown4 := PW4.out.2.alloc (.cells cl.toArray 55)
      have hq5 := (HG5.out.block _ (Array.getElem?_eq_some_iff.1 hq4).1 (fun c => own_ne hown4 hq4 (by decide) c.symm)).trans hq4
      have s0 : w5.cell? ⟨wb.heap.size, 0, none⟩ = some v1 := hblk hq5 0
      have s1 : w5.frozen? ⟨wb.heap.size, 0, none⟩ = false := hbfz hq5 0
      have HQ5 := Lib.hid hq5
      have hb5 : Below wb.heap.size wb w5 := HW5.out.grown HG5.out (by have := HBW4.out.size; simp; omega) (fun j hj => (hown4.lt j hj).1)
      have HB5 := Lib.hid hb5
      clear hq4 hown4 hq5 hb5
      rw [HV1.out] at s0
      refine tailE_op rfl rfl ?_
      go_simp
      have HP6 := Lib.hid (setCell_same HQ5.out 0 (.slice (some ⟨g, 0, none⟩) (k + 1) cap))
      have hk6 := setCell_keeps w5 wb.heap.size 0 (.slice (some ⟨g, 0, none⟩) (k + 1) cap)
      have HO6 := Lib.hid (own_set HO5.out HQ5.out (by decide) 0 (.slice (some ⟨g, 0, none⟩) (k + 1) cap))
      have HB6 := Lib.hid (keeps_below hk6 HB5.out HB5.out.size (fun j hj => by have := HSB.out; omega))
      clear s0 s1 hk6 HO5 HQ5
      unfold tailE
      generalize w5.setCell ⟨wb.heap.size, 0, none⟩ (.slice (some ⟨g, 0, none⟩) (k + 1) cap) = w6 at *
      have Q : Hid (w6.heap[wb.heap.size]? = some (.cells #[.slice (some ⟨g, 0, none⟩) (k + 1) cap, .slice none 0 0] 32 (0, 0)) ∧ w6.ownsRow wb.heap.size 55 20 (.slice (some ⟨g, 0, none⟩) (k + 1) cap) (k + 1) (flatC (h.cs.take (k + 1)))) := by
        refine ⟨HP6.out, ?_⟩
        rw [flatC_take _ _ _ HX.out, ← HCL.out]; exact HO6.out
      clear HP6 HO6
      go_wp2_with fail
      go_roundw
      case rel => exact ⟨k + 1, _, HLT.out, by go_num, Q, HB6⟩
      case measure => have := HLT.out; simp [intOf]; omega
    · obtain rfl : k = h.cs.length := by omega
      rw [List.take_length] at PW
      have hd0 : (h.ds.length : Int) ≤ 60 := by have := H2.out; omega
      obtain ⟨ac, acap, hv1⟩ := own_sl34 PW.out.2
      subst hv1
      clear hk hlt
      go_wp2_with fail
      clear c0
      go_loopw [5] (fun i wr => ∃ (k : Nat) (v2 : Value), k ≤ h.ds.length ∧ i = .int .i64 k ∧ Hid (wr.heap[wb.heap.size]? = some (.cells #[.slice ac h.cs.length acap, v2] 32 (0, 0)) ∧ wr.ownsRow wb.heap.size 97 7 v2 k (flatD (h.ds.take k)) ∧ wr.ownsRow wb.heap.size 55 20 (.slice ac h.cs.length acap) h.cs.length (flatC h.cs)) ∧ Hid (Below wb.heap.size wb wr)) (fun i _ => h.ds.length - (intOf i).toNat)
      case atStart => exact ⟨0, _, by omega, rfl, Lib.hid ⟨PW.out.1, World.ownsRow_nil _ _ _ _, PW.out.2⟩, HBW⟩
      case round =>
        clear HBW PW HS1
        obtain ⟨k, v2, hk, rfl, PW, HBW⟩ := hrel
        have c0 : wr.cell? ⟨w.heap.size, 1, none⟩ = some (.slice h.da h.ds.length h.dc) := hblk ((HBW.out.block _ (Array.getElem?_eq_some_iff.1 HZ.out).1).trans HZ.out) 1
        have HS1 := Lib.hid HBW.out.size
        by_cases hlt : k < h.ds.length
        · have hlt' : (k : Int) < h.ds.length := by omega
          obtain ⟨b, off, x, hca, hx, hwf, g0, g1, g2, g3, g4, g5, g6⟩ := (HR1.out.ds.below HBW.out).at k hlt
          have HX := Lib.hid hx; have HLT := Lib.hid hlt
          rw [hca] at c0
          clear hca hx hlt hk hwf
          obtain ⟨ao, ocap, hv2⟩ := own_sl34 PW.out.2.1
          have HV2 := Lib.hid hv2
          have c7 : wr.cell? ⟨wb.heap.size, 1, none⟩ = some v2 := hblk PW.out.1 1
          rw [hv2] at c7
          clear hv2
          go_upto_region 9 with (fail)
          have y7 := fun st : ExtW wr => st.cell c7
          have y0 := fun st : ExtW wr => st.cell c0
          have x0 := fun st : ExtW wr => st.cell g0
          have x1 := fun st : ExtW wr => st.cell g1
          have x2 := fun st : ExtW wr => st.cell g2
          have x3 := fun st : ExtW wr => st.cell g3
          have x4 := fun st : ExtW wr => st.cell g4
          have x5 := fun st : ExtW wr => st.cell g5
          have x6 := fun st : ExtW wr => st.cell g6
          clear c7 c0 g0 g1 g2 g3 g4 g5 g6
          refine wp_region_mix (D := fun W => ∃ s : ExtW wr, W = s.val) [0, 1, 2, 3, 4, 5, 6, 7, 8, 9, 10, 11, 12, 13, 14] [15] 16 [17, 18] (by kernel_rfl) (by kernel_rfl) (by kernel_rfl) (by kernel_rfl) (by decide) (by kernel_rfl) (by kernel_rfl) (fun c d v a w h => by cases d <;> exact h) ⟨⟨_, (Below.refl _ _).drew⟩, rfl⟩ ?_
          simp only [pickL_cons, pickL_nil, List.drop_succ_cons, List.drop_zero, List.take_succ_cons, List.take_zero, List.cons_append, List.nil_append]
          repeat (go_big_quiet_step (fail))
          refine wpQuiet_nil ?_
          clear y7 y0 x0 x1 x2 x3 x4 x5 x6
          refine tailM_op rfl rfl ?_
          refine wp_buildSlice 30 97 1 #[(0, .tmp 45)] rfl x.cells.toArray j0 _ Try.underlying30 JI.out JZ0.out (by rw [JZ1.out]; decide) (by rw [JZ1.out]; decide) ?hf ?_
          case hf =>
            rw [JZ1.out]
            simp only [List.map_toArray, List.map_cons, List.map_nil]
            refine fill_one _ x.cells 7 rfl ?_
            simp
          refine ⟨⟨⟨_, ((Below.refl _ _).drew).alloc (Nat.le_refl _) _⟩, rfl⟩, ?_⟩
          simp only [List.getElem_toArray, List.getElem_cons_succ, List.getElem_cons_zero]
          go_frame
          change tailE Try.prog _ _ [16, 17, 18] _ _
          refine tailE_op rfl rfl ?_
          have hsw := HBW.out.size
          have hlt3 := HLT.out
          have hh2 := H2.out
          refine wp_append_lies _ (.tmp 32) (.tmp 46) 30 rfl wb.heap.size 97 j0 _ 7 72 Try.underlying30 JI.out JZ0.out JZ1.out JZ2.out rfl (by decide) v2 _ _ (by rw [HV2.out]; rfl) ((PW.out.2.1.drew).alloc _) ⟨wr.drew.heap.size, 0, none⟩ 1 1 x.cells rfl rfl (by have h1 := World.news_of_block (fr := (0, 0)) (t := 97) (cs := x.cells.toArray) (heap_alloc_new wr.drew _); simpa using h1) (fun u hu => (Array.all_eq_true_iff_forall_mem.1 (HD.one x)) u (by simpa using hu)) (by decide) (by unfold maxLen; omega) (by omega) (by simp; omega) _ rfl ?_
          intro g cap w5 hown hgrow hat hlt5
          simp only [List.getElem_toArray, List.getElem_cons_succ, List.getElem_cons_zero]
          go_frame
          have HO5 := Lib.hid hown; have HG5 := Lib.hid hgrow
          clear hown hgrow hat hlt5 hsw hlt3 hh2
          refine tailE_op rfl rfl ?_
          go_simp
          have HW5 := Lib.hid (HBW.out.drew.alloc (o := .cells x.cells.toArray 97) HBW.out.size)
          have hq4 : (wr.drew.alloc (.cells x.cells.toArray 97)).heap[wb.heap.size]? = some (.cells #[.slice ac h.cs.length acap, v2] 32 (0, 0)) := ((hballoc wr.drew _).block _ (Array.getElem?_eq_some_iff.1 PW.out.1).1).trans PW.out.1
          have hown4 := (PW.out.2.1.drew).alloc (.cells x.cells.toArray 97)
          have hcal4 := (PW.out.2.2.drew).alloc (.cells x.cells.toArray 97)
          have hq5 := (HG5.out.block _ (Array.getElem?_eq_some_iff.1 hq4).1 (fun c => own_ne hown4 hq4 (by decide) c.symm)).trans hq4
          have s0 : w5.cell? ⟨wb.heap.size, 1, none⟩ = some v2 := hblk hq5 1
          have s1 : w5.frozen? ⟨wb.heap.size, 1, none⟩ = false := hbfz hq5 1
          have HQ5 := Lib.hid hq5
          have HC5 := Lib.hid (own_grow hcal4 hown4 HG5.out (by decide))
          have hb5 : Below wb.heap.size wb w5 := HW5.out.grown HG5.out (by have := HBW.out.size; simp; omega) (fun j hj => (hown4.lt j hj).1)
          have HB5 := Lib.hid hb5
          clear hq4 hown4 hq5 hb5 hcal4
          rw [HV2.out] at s0
          refine tailE_op rfl rfl ?_
          go_simp
          have HP6 := Lib.hid (setCell_same HQ5.out 1 (.slice (some ⟨g, 0, none⟩) (k + 1) cap))
          have hk6 := setCell_keeps w5 wb.heap.size 1 (.slice (some ⟨g, 0, none⟩) (k + 1) cap)
          have HO6 := Lib.hid (own_set HO5.out HQ5.out (by decide) 1 (.slice (some ⟨g, 0, none⟩) (k + 1) cap))
          have HC6 := Lib.hid (own_set HC5.out HQ5.out (by decide) 1 (.slice (some ⟨g, 0, none⟩) (k + 1) cap))
          have HB6 := Lib.hid (keeps_below hk6 HB5.out HB5.out.size (fun j hj => by have := HSB.out; omega))
          clear s0 s1 hk6 HO5 HQ5 HC5
          unfold tailE
          generalize w5.setCell ⟨wb.heap.size, 1, none⟩ (.slice (some ⟨g, 0, none⟩) (k + 1) cap) = w6 at *
          have Q : Hid (w6.heap[wb.heap.size]? = some (.cells #[.slice ac h.cs.length acap, .slice (some ⟨g, 0, none⟩) (k + 1) cap] 32 (0, 0)) ∧ w6.ownsRow wb.heap.size 97 7 (.slice (some ⟨g, 0, none⟩) (k + 1) cap) (k + 1) (flatD (h.ds.take (k + 1))) ∧ w6.ownsRow wb.heap.size 55 20 (.slice ac h.cs.length acap) h.cs.length (flatC h.cs)) := by
            refine ⟨HP6.out, ?_, HC6.out⟩
            rw [flatD_take _ _ _ HX.out]; exact HO6.out
          clear HP6 HO6 HC6
          go_wp2_with fail
          go_roundw
          case rel => exact ⟨k + 1, _, HLT.out, by go_num, Q, HB6⟩
          case measure => have := HLT.out; simp [intOf]; omega
        · obtain rfl : k = h.ds.length := by omega
          rw [List.take_length] at PW
          obtain ⟨ad, dcap, hv2⟩ := own_sl34 PW.out.2.1
          subst hv2
          clear hk hlt
          have e0 : wr.cell? ⟨wb.heap.size, 0, none⟩ = some (.slice ac h.cs.length acap) := hblk PW.out.1 0
          have e1 : wr.cell? ⟨wb.heap.size, 1, none⟩ = some (.slice ad h.ds.length dcap) := hblk PW.out.1 1
          have hzb := (HBW.out.block _ (Array.getElem?_eq_some_iff.1 HZB.out).1).trans HZB.out
          have f0 : wr.cell? ⟨w.heap.size + 1, 0, none⟩ = some (.slice none 0 0) := hblk hzb 0
          have f1 : wr.cell? ⟨w.heap.size + 1, 1, none⟩ = some (.slice none 0 0) := hblk hzb 1
          have f2 := fun o => hbfz hzb o
          clear hzb
          go_upto_region 10 with (fail)
          go_wp2_with fail
          have hzb := (HBW.out.block _ (Array.getElem?_eq_some_iff.1 HZB.out).1).trans HZB.out
          have z1 := setCell_same hzb 0 (.slice ac h.cs.length acap)
          have z2 := setCell_same z1 1 (.slice ad h.ds.length dcap)
          have oc := own_set (own_set PW.out.2.2 hzb (by decide) 0 (.slice ac h.cs.length acap)) z1 (by decide) 1 (.slice ad h.ds.length dcap)
          have od := own_set (own_set PW.out.2.1 hzb (by decide) 0 (.slice ac h.cs.length acap)) z1 (by decide) 1 (.slice ad h.ds.length dcap)
          have hk := (setCell_keeps wr (w.heap.size + 1) 0 (.slice ac h.cs.length acap)).again (setCell_keeps _ (w.heap.size + 1) 1 (.slice ad h.ds.length dcap))
          have hb := keeps_below hk (HB.out.trans (HBW.out.mono HB.out.size)) (by have := HBW.out.size; have := HB.out.size; omega) (fun j hj => by omega)
          clear e0 e1 f0 f1 f2 hk hzb z1
          generalize (wr.setCell ⟨w.heap.size + 1, 0, none⟩ (.slice ac h.cs.length acap)).setCell ⟨w.heap.size + 1, 1, none⟩ (.slice ad h.ds.length dcap) = w9 at *
          have r0 : w9.cell? ⟨w.heap.size + 1, 0, none⟩ = some (.slice ac h.cs.length acap) := hblk z2 0
          have r1 : w9.cell? ⟨w.heap.size + 1, 1, none⟩ = some (.slice ad h.ds.length dcap) := hblk z2 1
          refine bodyPost_ret (v := .agg #[.slice ac h.cs.length acap, .slice ad h.ds.length dcap]) (by simp [results, Try.results9, go_sem, r0, r1]; done) rfl ?_
          exact ⟨⟨ac, acap, h.cs, ad, dcap, h.ds⟩, rfl, rfl, rfl, ⟨hcs_ownT oc HR.out.cs.wf, hds_ownT od HR.out.ds.wf⟩, hb⟩
end Go.Proofs.Ytmagpbbjjkmbpaa
