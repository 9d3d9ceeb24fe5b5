/-
  Is a history as it was (nestboxlaw34.left)?
-/
import Derived.Test.YtmagpbbjjkmbpaaHistRefK
namespace Go.Proofs.Ytmagpbbjjkmbpaa
open Go.RowKit Go.Maps Go.Sort
set_option linter.unusedVariables false

theorem neq_called (x : HC) (W : World) : (binOp .neq 57 (.agg #[.int .i64 x.th, .int .u8 x.vb, .string x.ky, .string x.vl, .int .u32 x.fl, .int .i64 x.ex, .int .u64 x.ui, .int .u64 x.bn, .int .i64 x.fr, .int .i64 x.to, .int .u8 x.ak, .int .u64 x.an, .string x.ik, .string x.iv, .int .u32 x.ifl, .int .u64 x.iid, .int .i64 x.idi, .int .i64 x.ige, .int .u64 x.ep, .int .i64 x.pt]) (.agg #[.int .i64 x.th, .int .u8 x.vb, .string x.ky, .string x.vl, .int .u32 x.fl, .int .i64 x.ex, .int .u64 x.ui, .int .u64 x.bn, .int .i64 x.fr, .int .i64 x.to, .int .u8 x.ak, .int .u64 x.an, .string x.ik, .string x.iv, .int .u32 x.ifl, .int .u64 x.iid, .int .i64 x.idi, .int .i64 x.ige, .int .u64 x.ep, .int .i64 x.pt])).run Try.prog W = .ok (.bool false) W := by
  go_simp
theorem neq_calledR (x : HC) (W : World) : (binOp .neq 55 (.agg #[.int .i64 x.th, .int .u8 x.vb, .string x.ky, .string x.vl, .int .u32 x.fl, .int .i64 x.ex, .int .u64 x.ui, .int .u64 x.bn, .int .i64 x.fr, .int .i64 x.to, .int .u8 x.ak, .int .u64 x.an, .string x.ik, .string x.iv, .int .u32 x.ifl, .int .u64 x.iid, .int .i64 x.idi, .int .i64 x.ige, .int .u64 x.ep, .int .i64 x.pt]) (.agg #[.int .i64 x.th, .int .u8 x.vb, .string x.ky, .string x.vl, .int .u32 x.fl, .int .i64 x.ex, .int .u64 x.ui, .int .u64 x.bn, .int .i64 x.fr, .int .i64 x.to, .int .u8 x.ak, .int .u64 x.an, .string x.ik, .string x.iv, .int .u32 x.ifl, .int .u64 x.iid, .int .i64 x.idi, .int .i64 x.ige, .int .u64 x.ep, .int .i64 x.pt])).run Try.prog W = .ok (.bool false) W := by
  go_simp
theorem neq_drop (x : HD) (W : World) : (binOp .neq 62 (.agg #[.int .i64 x.st, .string x.ik, .string x.iv, .int .u32 x.ifl, .int .u64 x.iid, .int .i64 x.idi, .int .i64 x.ige]) (.agg #[.int .i64 x.st, .string x.ik, .string x.iv, .int .u32 x.ifl, .int .u64 x.iid, .int .i64 x.idi, .int .i64 x.ige])).run Try.prog W = .ok (.bool false) W := by
  go_simp
theorem neq_calledA (x : HC) (W : World) : (binOp .neq 57 (.agg x.cells.toArray) (.agg x.cells.toArray)).run Try.prog W = .ok (.bool false) W := neq_called x W
theorem neq_calledB (x : HC) (W : World) : (binOp .neq 55 (.agg x.cells.toArray) (.agg x.cells.toArray)).run Try.prog W = .ok (.bool false) W := neq_calledR x W
theorem neq_dropA (x : HD) (W : World) : (binOp .neq 62 (.agg x.cells.toArray) (.agg x.cells.toArray)).run Try.prog W = .ok (.bool false) W := neq_drop x W
set_option maxRecDepth 100000 in
set_option maxHeartbeats 8000000 in
theorem left_any (h g : Hst) (w : World) (hr : HstRd w h) (gr : HstRd w g) (hc : h.cs = g.cs) (hd : h.ds = g.ds) (h1 : g.cs.length ≤ 120) (h2 : g.ds.length ≤ 60) :
    Calls Try.prog 17 #[.agg #[.slice h.ca h.cs.length h.cc, .slice h.da h.ds.length h.dc], .agg #[.slice g.ca g.cs.length g.cc, .slice g.da g.ds.length g.dc]] w fun e w' => e = .returned (.bool true) ∧ Below w.heap.size w w' := by
  obtain ⟨ha, hcap, hcs, hda, hdc, hds⟩ := h
  obtain ⟨ga, gcap, cs, gda, gdc, ds⟩ := g
  simp only at hc hd h1 h2
  subst hc hd
  have HR := Lib.hid hr; have GR := Lib.hid gr
  have hc0 : (hcs.length : Int) ≤ 120 := by omega
  have hd0 : (hds.length : Int) ≤ 60 := by omega
  clear hr gr h1 h2
  simp only
  go_enter Try.func17, Try.ntmps17
  go_upto_region 1 with (fail)
  obtain ⟨wa, hwa⟩ : ∃ wa, wa = w.alloc (.cells #[.slice ha hcs.length hcap, .slice hda hds.length hdc] 25) := ⟨_, rfl⟩
  obtain ⟨wb, hwb⟩ : ∃ wb, wb = wa.alloc (.cells #[.slice ga hcs.length gcap, .slice gda hds.length gdc] 25) := ⟨_, rfl⟩
  change Code.wp _ _ _ _ ((w.alloc (.cells #[.slice ha hcs.length hcap, .slice hda hds.length hdc] 25)).alloc (.cells #[.slice ga hcs.length gcap, .slice gda hds.length gdc] 25))
  rw [← hwa, ← hwb]
  have sa : wa.heap.size = w.heap.size + 1 := by rw [hwa]; simp
  have sb : wb.heap.size = w.heap.size + 2 := by rw [hwb]; simp; omega
  have za : wa.heap[w.heap.size]? = some (.cells #[.slice ha hcs.length hcap, .slice hda hds.length hdc] 25 (0, 0)) := by rw [hwa]; exact heap_alloc_new w _
  have ba : Below w.heap.size w wa := by rw [hwa]; exact hballoc w _
  have bb : Below wa.heap.size wa wb := by rw [hwb]; exact hballoc wa _
  have zb : wb.heap[w.heap.size + 1]? = some (.cells #[.slice ga hcs.length gcap, .slice gda hds.length gdc] 25 (0, 0)) := by rw [← sa, hwb]; exact heap_alloc_new wa _
  have HZ := Lib.hid ((bb.block w.heap.size (by omega)).trans za)
  have HZB := Lib.hid zb
  have HB := Lib.hid (ba.trans (bb.mono (by omega)))
  have HR1 := Lib.hid (HR.out.below HB.out)
  have GR1 := Lib.hid (GR.out.below HB.out)
  clear hwa hwb sa sb za ba bb zb
  go_wp2_with fail
  go_loopw [5] (fun i wr => ∃ k : Nat, k ≤ hcs.length ∧ i = .int .i64 k ∧ Hid (Below wb.heap.size wb wr)) (fun i _ => hcs.length - (intOf i).toNat)
  case atStart => exact ⟨0, by omega, rfl, Lib.hid (Below.refl _ _)⟩
  case round =>
    obtain ⟨k, hk, rfl, HBW⟩ := hrel
    have c0 : wr.cell? ⟨w.heap.size, 0, none⟩ = some (.slice ha hcs.length hcap) := hblk ((HBW.out.block _ (Array.getElem?_eq_some_iff.1 HZ.out).1).trans HZ.out) 0
    have d0 : wr.cell? ⟨w.heap.size + 1, 0, none⟩ = some (.slice ga hcs.length gcap) := hblk ((HBW.out.block _ (Array.getElem?_eq_some_iff.1 HZB.out).1).trans HZB.out) 0
    by_cases hlt : k < hcs.length
    · have hlt' : (k : Int) < hcs.length := by omega
      obtain ⟨b, off, x, cl, hca, hx, rfl, hsz, h1c, hld⟩ := (HR1.out.cs.below HBW.out).whole k hlt
      obtain ⟨b', off', x', cl', hca', hx', rfl, hsz', h1c', hld'⟩ := (GR1.out.cs.below HBW.out).whole k hlt
      obtain rfl : x = x' := Option.some.inj (hx.symm.trans hx')
      simp only at hca hca'
      have hi20 : (Try.prog.info? 57).map (·.size) = some x.cells.length := by kernel_rfl
      have HLT := Lib.hid hlt; have HLD := Lib.hid hld; have HLD' := Lib.hid hld'; have HI20 := Lib.hid hi20
      rw [hca] at c0
      rw [hca'] at d0
      clear hca hca' hx hx' hlt hk h1c h1c' hld hld' hsz hsz' hi20
      go_upto_region 4 with (fail)
      have y0 := fun st : ExtW wr => st.cell c0
      have y1 := fun st : ExtW wr => st.cell d0
      clear c0 d0
      refine wp_region_ext (by kernel_rfl) (by kernel_rfl) ?_
      iterate 4 (go_big_quiet_step (fail))
      refine wpQuiet_mid rfl 57 (.tmp 17) rfl b (off + k * 20) rfl x.cells _ (fun w hw => by obtain ⟨⟨W2, hW⟩, rfl⟩ := hw; exact range_below HLD.out hW) Try.underlying57 rfl HI20.out ?_
      go_frame
      iterate 4 (go_big_quiet_step (fail))
      refine wpQuiet_mid rfl 57 (.tmp 22) rfl b' (off' + k * 20) rfl x.cells _ (fun w hw => by obtain ⟨⟨W2, hW⟩, rfl⟩ := hw; exact range_below HLD'.out hW) Try.underlying57 rfl HI20.out ?_
      go_frame
      have N := fun W : World => neq_calledA x W
      go_big_quiet_step (fail)
      clear N
      refine wpQuiet_nil ?_
      rintro W ⟨⟨W2, hW⟩, rfl⟩
      have HW := Lib.hid (HBW.out.trans (hW.mono HBW.out.size))
      clear hW y0 y1
      go_wp2_with fail
      go_roundw
      case rel => exact ⟨k + 1, HLT.out, by go_num, HW⟩
      case measure => have := HLT.out; simp [intOf]; omega
    · obtain rfl : k = hcs.length := by omega
      clear hk hlt d0
      go_wp2_with fail
      clear c0
      go_loopw [6] (fun i wr => ∃ k : Nat, k ≤ hds.length ∧ i = .int .i64 k ∧ Hid (Below wb.heap.size wb wr)) (fun i _ => hds.length - (intOf i).toNat)
      case atStart => exact ⟨0, by omega, rfl, HBW⟩
      case round =>
        clear HBW
        obtain ⟨k, hk, rfl, HBW⟩ := hrel
        have c0 : wr.cell? ⟨w.heap.size, 1, none⟩ = some (.slice hda hds.length hdc) := hblk ((HBW.out.block _ (Array.getElem?_eq_some_iff.1 HZ.out).1).trans HZ.out) 1
        have d0 : wr.cell? ⟨w.heap.size + 1, 1, none⟩ = some (.slice gda hds.length gdc) := hblk ((HBW.out.block _ (Array.getElem?_eq_some_iff.1 HZB.out).1).trans HZB.out) 1
        by_cases hlt : k < hds.length
        · have hlt' : (k : Int) < hds.length := by omega
          obtain ⟨b, off, x, cl, hca, hx, rfl, hsz, h1c, hld⟩ := (HR1.out.ds.below HBW.out).whole k hlt
          obtain ⟨b', off', x', cl', hca', hx', rfl, hsz', h1c', hld'⟩ := (GR1.out.ds.below HBW.out).whole k hlt
          obtain rfl : x = x' := Option.some.inj (hx.symm.trans hx')
          simp only at hca hca'
          have hi20 : (Try.prog.info? 62).map (·.size) = some x.cells.length := by kernel_rfl
          have HLT := Lib.hid hlt; have HLD := Lib.hid hld; have HLD' := Lib.hid hld'; have HI20 := Lib.hid hi20
          rw [hca] at c0
          rw [hca'] at d0
          clear hca hca' hx hx' hlt hk h1c h1c' hld hld' hsz hsz' hi20
          go_upto_region 9 with (fail)
          have y0 := fun st : ExtW wr => st.cell c0
          have y1 := fun st : ExtW wr => st.cell d0
          clear c0 d0
          refine wp_region_ext (by kernel_rfl) (by kernel_rfl) ?_
          iterate 4 (go_big_quiet_step (fail))
          refine wpQuiet_mid rfl 62 (.tmp 35) rfl b (off + k * 7) rfl x.cells _ (fun w hw => by obtain ⟨⟨W2, hW⟩, rfl⟩ := hw; exact range_below HLD.out hW) Try.underlying62 rfl HI20.out ?_
          go_frame
          iterate 4 (go_big_quiet_step (fail))
          refine wpQuiet_mid rfl 62 (.tmp 40) rfl b' (off' + k * 7) rfl x.cells _ (fun w hw => by obtain ⟨⟨W2, hW⟩, rfl⟩ := hw; exact range_below HLD'.out hW) Try.underlying62 rfl HI20.out ?_
          go_frame
          have N := fun W : World => neq_dropA x W
          go_big_quiet_step (fail)
          clear N
          refine wpQuiet_nil ?_
          rintro W ⟨⟨W2, hW⟩, rfl⟩
          have HW := Lib.hid (HBW.out.trans (hW.mono HBW.out.size))
          clear hW y0 y1
          go_wp2_with fail
          go_roundw
          case rel => exact ⟨k + 1, HLT.out, by go_num, HW⟩
          case measure => have := HLT.out; simp [intOf]; omega
        · obtain rfl : k = hds.length := by omega
          clear hk hlt d0
          go_wp2_with fail
          go_ret
          exact ⟨rfl, HB.out.trans (HBW.out.mono HB.out.size)⟩
end Go.Proofs.Ytmagpbbjjkmbpaa
