import Derived.Test.YtmakjfeepmiggaaGreatZ6
import Derived.Deep.DeepCutAuto
import Derived.Deep.CutBlock
namespace Go.Proofs.YtmakjfeepmiggaaGreat
open Go.RowKit
set_option linter.unusedVariables false
structure BxA (f : Fst) (w W : World) : Prop where
  hF : W.heap[w.heap.size]? = some (.cells f.cells 28 (0, 0))
  h2 : W.heap[w.heap.size + 1]? = some (.cells #[.pointer none, .pointer none] 34 (0, 0))
  h3 : W.heap[w.heap.size + 2]? = some (.cells #[.int .i64 f.conf.bits, .int .i64 f.conf.budget, .int .i64 f.conf.tries, .int .i64 f.conf.quantum, .int .i64 f.conf.way] 23 (0, 0))
  hB : Below w.heap.size w W
set_option maxRecDepth 100000 in
set_option maxHeartbeats 8000000 in
theorem begin_any (f : Fst) (w : World) (hin : FstIn w f) : Calls Tryz.prog 9 #[.agg #[.int .i64 f.c.bits, .int .i64 f.c.budget, .int .i64 f.c.tries, .int .i64 f.c.quantum, .int .i64 f.c.way, .bool f.gr, .slice f.ia f.its.length f.ic, .slice f.pa f.puts.length f.pc, .slice f.sa f.sts.length f.sc, .int .i64 f.ticks]] w (BeginPost f w) := by
  have hcok : f.conf.ok = true := by
    unfold Fst.conf; split
    · assumption
    · decide
  have hct : f.c.ok = true → f.conf = f.c := fun h => by unfold Fst.conf; rw [h]; rfl
  have hcn : f.c.ok = false → f.conf = conf10 := fun h => by unfold Fst.conf; rw [h]; rfl
  obtain ⟨hwb, hb1, hb12⟩ := tword_bits hcok
  have HIN := Lib.hid hin; have HOK := Lib.hid hcok; have HTW := Lib.hid hwb; have HCT := Lib.hid hct; have HCN := Lib.hid hcn
  clear hin hcok hwb hct hcn
  go_enter Tryz.func9, Tryz.ntmps9
  go_upto_region 2 with (fail)
  have hF : (((w.alloc (.cells f.cells 28)).alloc (.cells #[.pointer none, .pointer none] 34)).alloc (.cells #[.int .i64 f.c.bits, .int .i64 f.c.budget, .int .i64 f.c.tries, .int .i64 f.c.quantum, .int .i64 f.c.way] 23)).heap[w.heap.size]? = some (.cells f.cells 28 (0, 0)) := heap_alloc_old (heap_alloc_old (heap_alloc_new w _))
  have h2 : (((w.alloc (.cells f.cells 28)).alloc (.cells #[.pointer none, .pointer none] 34)).alloc (.cells #[.int .i64 f.c.bits, .int .i64 f.c.budget, .int .i64 f.c.tries, .int .i64 f.c.quantum, .int .i64 f.c.way] 23)).heap[w.heap.size + 1]? = some (.cells #[.pointer none, .pointer none] 34 (0, 0)) := heap_alloc_old (heap_alloc_at _ _ (by simp))
  have h3 : (((w.alloc (.cells f.cells 28)).alloc (.cells #[.pointer none, .pointer none] 34)).alloc (.cells #[.int .i64 f.c.bits, .int .i64 f.c.budget, .int .i64 f.c.tries, .int .i64 f.c.quantum, .int .i64 f.c.way] 23)).heap[w.heap.size + 1 + 1]? = some (.cells #[.int .i64 f.c.bits, .int .i64 f.c.budget, .int .i64 f.c.tries, .int .i64 f.c.quantum, .int .i64 f.c.way] 23 (0, 0)) := heap_alloc_at _ _ (by simp)
  have hB3 : Below w.heap.size w (((w.alloc (.cells f.cells 28)).alloc (.cells #[.pointer none, .pointer none] 34)).alloc (.cells #[.int .i64 f.c.bits, .int .i64 f.c.budget, .int .i64 f.c.tries, .int .i64 f.c.quantum, .int .i64 f.c.way] 23)) := (((Below.refl _ w).alloc (Nat.le_refl _) _).alloc (by simp) _).alloc (by simp; omega) _
  change Code.wp _ _ _ _ (((w.alloc (.cells f.cells 28)).alloc (.cells #[.pointer none, .pointer none] 34)).alloc (.cells #[.int .i64 f.c.bits, .int .i64 f.c.budget, .int .i64 f.c.tries, .int .i64 f.c.quantum, .int .i64 f.c.way] 23))
  generalize ((w.alloc (.cells f.cells 28)).alloc (.cells #[.pointer none, .pointer none] 34)).alloc (.cells #[.int .i64 f.c.bits, .int .i64 f.c.budget, .int .i64 f.c.tries, .int .i64 f.c.quantum, .int .i64 f.c.way] 23) = W3 at *
  have d0 := hcell h3 0; have d1 := hcell h3 1; have d2 := hcell h3 2; have d3 := hcell h3 3; have d4 := hcell h3 4
  have HF := Lib.hid hF; have H2 := Lib.hid h2; have H3 := Lib.hid h3; have HB3 := Lib.hid hB3
  clear hF h2 h3 hB3
  go_upto_if 14 with (first
    | (go_at_call 45; refine (rother_any f.c _).mono ?_; rintro e w4 ⟨rfl, b4⟩; have HB4 := Lib.hid b4; clear b4)
    | (go_at_call 44; refine (rmay_any f.c _).mono ?_; rintro e W4 ⟨rfl, b5⟩; have HB5 : Hid (Below W3.heap.size W3 W4) := HB4.out.trans (b5.mono HB4.out.size); clear b5 d0 d1 d2 d3 d4))
  go_cut [] (fun wx => BxA f w wx)
  case first =>
    have h34 := (HB5.out.block _ (Array.getElem?_eq_some_iff.1 H3.out).1).trans H3.out
    have hF0 := (HB5.out.block _ (Array.getElem?_eq_some_iff.1 HF.out).1).trans HF.out
    have h20 := (HB5.out.block _ (Array.getElem?_eq_some_iff.1 H2.out).1).trans H2.out
    have hB4 : Below w.heap.size w W4 := HB3.out.trans (HB5.out.mono HB3.out.size)
    cases hok : f.c.ok
    · have h3 := setCell_same (setCell_same (setCell_same (setCell_same (setCell_same h34 0 (.int .i64 2)) 1 (.int .i64 8)) 2 (.int .i64 3)) 3 (.int .i64 1)) 4 (.int .i64 16)
      have hk5 : Keeps (· = w.heap.size + 1 + 1) W4 (((((W4.setCell ⟨w.heap.size + 1 + 1, 0, none⟩ (.int .i64 2)).setCell ⟨w.heap.size + 1 + 1, 1, none⟩ (.int .i64 8)).setCell ⟨w.heap.size + 1 + 1, 2, none⟩ (.int .i64 3)).setCell ⟨w.heap.size + 1 + 1, 3, none⟩ (.int .i64 1)).setCell ⟨w.heap.size + 1 + 1, 4, none⟩ (.int .i64 16)) := ((((setCell_keeps _ _ _ _).again (setCell_keeps _ _ _ _)).again (setCell_keeps _ _ _ _)).again (setCell_keeps _ _ _ _)).again (setCell_keeps _ _ _ _)
      have HREL : Hid (BxA f w (((((W4.setCell ⟨w.heap.size + 1 + 1, 0, none⟩ (.int .i64 2)).setCell ⟨w.heap.size + 1 + 1, 1, none⟩ (.int .i64 8)).setCell ⟨w.heap.size + 1 + 1, 2, none⟩ (.int .i64 3)).setCell ⟨w.heap.size + 1 + 1, 3, none⟩ (.int .i64 1)).setCell ⟨w.heap.size + 1 + 1, 4, none⟩ (.int .i64 16))) := by
        refine ⟨(hk5.block _ (Array.getElem?_eq_some_iff.1 hF0).1 (by omega)).trans hF0, (hk5.block _ (Array.getElem?_eq_some_iff.1 h20).1 (by omega)).trans h20, ?_, keeps_below hk5 hB4 hB4.size fun k e => by omega⟩
        rw [HCN.out hok]
        exact h3
      have d0 := hcell h34 0; have d1 := hcell h34 1; have d2 := hcell h34 2; have d3 := hcell h34 3; have d4 := hcell h34 4; have df := hfrz h34
      clear h34 hF0 h20 hB4 h3 hk5
      go_wp2_with fail
      go_meet
      case rel => exact HREL.out
    · have HREL : Hid (BxA f w W4) := ⟨hF0, h20, by rw [HCT.out hok]; exact h34, hB4⟩
      clear h34 hF0 h20 hB4
      go_wp2_with fail
      go_meet
      case rel => exact HREL.out
  case rest =>
  clear HF H2 H3 HB3 HB4 HB5 HCT HCN
  obtain ⟨hF, h2, h3, hB5⟩ := hcut
  have HBX0 : Hid (BxF f f.conf w.heap.size wc.heap.size (.pointer none) (.pointer none) (wc.alloc (.cells #[.pointer none, .pointer none] 34))) := ⟨heap_alloc_old hF, heap_alloc_old h2, heap_alloc_old h3, heap_alloc_new wc _⟩
  have HB6 : Hid (Below w.heap.size w (wc.alloc (.cells #[.pointer none, .pointer none] 34))) := hB5.alloc hB5.size _
  have hq4 : w.heap.size + 1 < wc.heap.size := (Array.getElem?_eq_some_iff.1 h2).1
  have HSZ := Lib.hid hB5.size
  clear hF h2 h3 hB5
  go_upto_region 5 with (fail)
  generalize wc.alloc (.cells #[.pointer none, .pointer none] 34) = W6 at *
  obtain ⟨q4, hq4e⟩ : ∃ q4, q4 = wc.heap.size := ⟨_, rfl⟩
  rw [← hq4e] at HBX0 hq4 HSZ
  simp only [← hq4e]
  clear hq4e
  have hb := HBX0.out
  have d0 := hcell hb.h3 0; have d1 := hcell hb.h3 1; have d2 := hcell hb.h3 2; have d3 := hcell hb.h3 3; have d4 := hcell hb.h3 4
  clear hb
  generalize hfc : f.conf = fc at *
  go_upto_region 6 with (first
    | (go_at_call 45; refine (rother_any fc _).mono ?_; rintro e w7 ⟨rfl, b7⟩; have HB7 := Lib.hid b7; clear b7 d0 d1 d2 d3 d4)
    | (go_at_call 46; refine (rnew10_any fc HOK.out w7).mono ?_; rintro e w8 ⟨rb, cr, rib, rnb, rfl, hR, bR⟩; have hbx8 := (HBX0.out.below HB7.out).below bR; have e0 := hcell hbx8.h4 1; have ef := hfrz hbx8.h4 1; have HR8 := Lib.hid (rd_of hR (HB6.out.trans (HB7.out.mono HB6.out.size)) bR); have HBX8 := Lib.hid hbx8; have HB8 : Hid (Below w.heap.size w w8) := (HB6.out.trans (HB7.out.mono HB6.out.size)).trans (bR.mono (Nat.le_trans HB6.out.size HB7.out.size)); clear hbx8 hR bR))
  have hf9 := setPair_fr HBX8.out.h4 1 (.pointer (some ⟨rb, 0, none⟩))
  have hB9 := below_set (o := 1) (v := .pointer (some ⟨rb, 0, none⟩)) HB8.out (HSZ.out)
  have hbx9 := HBX8.out.set (by omega) 1 (.pointer (some ⟨rb, 0, none⟩)) (.pointer none) (.pointer (some ⟨rb, 0, none⟩)) rfl
  have HR9 := Lib.hid (HR8.out.fr hf9 pairTy_r hB9)
  have HBX9 := Lib.hid hbx9; have HB9 := Lib.hid hB9
  clear hf9 hB9 hbx9 e0 ef HR8 HBX8 HB8
  generalize w8.setCell ⟨q4, 1, none⟩ (.pointer (some ⟨rb, 0, none⟩)) = W9 at *
  have hb := HBX9.out
  have d0 := hcell hb.h3 0; have d1 := hcell hb.h3 1; have d2 := hcell hb.h3 2; have d3 := hcell hb.h3 3; have d4 := hcell hb.h3 4
  clear hb
  go_upto_region 7 with (go_at_call 47; refine (wnew_ok fc HOK.out W9).mono ?_; rintro e w10 ⟨wb, cb, ib, nb, rfl, g1, g2, g3, g4, g5, g6, g7⟩; have hbx10 := HBX9.out.below g3.below; have e0 := hcell hbx10.h4 0; have ef := hfrz hbx10.h4 0; have HW10 := Lib.hid (ws_of HB9.out g1 g2 g3 g4 g5 g6 g7); have HR10 := Lib.hid (HR9.out.keep g3.below); have HBX10 := Lib.hid hbx10; clear hbx10 g1 g2 g3 g4 g5 g6 g7 d0 d1 d2 d3 d4)
  have hf11 := setPair_fr HBX10.out.h4 0 (.pointer (some ⟨wb, 0, none⟩))
  have hB11 := below_set (o := 0) (v := .pointer (some ⟨wb, 0, none⟩)) HW10.out.below (HSZ.out)
  have hbx11 := HBX10.out.set (by omega) 0 (.pointer (some ⟨wb, 0, none⟩)) (.pointer (some ⟨wb, 0, none⟩)) (.pointer (some ⟨rb, 0, none⟩)) rfl
  have htw : tword fc.bits 0 = fc.bits := HTW.out
  have hws := HW10.out.fr hf11 pairTy_w hB11
  rw [htw] at hws
  have hpr : Pr w (w10.setCell ⟨q4, 0, none⟩ (.pointer (some ⟨wb, 0, none⟩))) ⟨wb, cb, ib, nb⟩ ⟨rb, cr, rib, rnb⟩ (v0 fc) (CS.init [(2, fc.bits)]) ⟨rfold [(2, fc.bits)], 0, 0, 0, 0, 0⟩ := ⟨hws, HR10.out.fr hf11 pairTy_r hB11, init_one _ (by omega)⟩
  have hfar := init_far1 fc.bits
  have HPR := Lib.hid hpr; have HFAR := Lib.hid hfar; have HBX := Lib.hid hbx11
  clear hf11 hB11 hbx11 htw hws hpr hfar e0 ef HW10 HR10 HBX10 HBX9 HB9 HR9 HB7 HBX0 HB6
  generalize w10.setCell ⟨q4, 0, none⟩ (.pointer (some ⟨wb, 0, none⟩)) = W11 at *
  generalize hs1 : CS.init [(2, fc.bits)] = s1 at *
  generalize (⟨rfold [(2, fc.bits)], 0, 0, 0, 0, 0⟩ : RS) = x1 at *
  obtain ⟨B, hBe⟩ : ∃ B : WB, B = ⟨wb, cb, ib, nb⟩ := ⟨_, rfl⟩
  obtain ⟨R, hRe⟩ : ∃ R : WB, R = ⟨rb, cr, rib, rnb⟩ := ⟨_, rfl⟩
  rw [← hBe, ← hRe] at HPR
  have ewb : wb = B.wb := by rw [hBe]
  have erb : rb = R.wb := by rw [hRe]
  subst ewb erb
  clear hBe hRe
  have HS1 := Lib.hid hs1; have HFC := Lib.hid hfc
  clear hs1 hfc
  have c40 := hcell HBX.out.h4 0
  have cF5 : W11.cell? ⟨w.heap.size, 5, none⟩ = some (.bool f.gr) := hcell HBX.out.hF 5
  have c30 := hcell HBX.out.h3 0
  go_upto_region 9 with (fail)
  go_cut [0, 42] (fun _ s42 wx => s42 = .bool (f.gr && decide (fc.bits < 12)) ∧ wx = W11)
  case first =>
    cases hg : f.gr
    · rw [hg] at cF5
      go_wp2_with fail
      go_meet
      case rel => exact ⟨by rw [hg]; rfl, rfl⟩
    · rw [hg] at cF5
      go_wp2_with fail
      go_meet
      case rel => exact ⟨by rw [hg]; simp, rfl⟩
  case rest =>
  obtain ⟨rfl, hwc⟩ := hcut
  subst hwc
  clear cF5 c30 c40
  have htk0 : ({ v0 fc with its := List.take 0 f.its } : WV) = v0 fc := rfl
  go_upto_if 42 with (fail)
  go_cut [] (fun wx => ∃ s2 x2, Pr w wx B R (v0 fc) s2 x2 ∧ BxF f fc w.heap.size q4 (.pointer (some ⟨B.wb, 0, none⟩)) (.pointer (some ⟨R.wb, 0, none⟩)) wx ∧ Far s2 x2 2 ∧ (f.gr = false → s2 = s1))
  case first =>
    cases hgb : (f.gr && decide (fc.bits < 12))
    · have HREL : Hid (∃ s2 x2, Pr w wc B R (v0 fc) s2 x2 ∧ BxF f fc w.heap.size q4 (.pointer (some ⟨B.wb, 0, none⟩)) (.pointer (some ⟨R.wb, 0, none⟩)) wc ∧ Far s2 x2 2 ∧ (f.gr = false → s2 = s1)) := ⟨s1, x1, HPR.out, HBX.out, ⟨by have := HFAR.out.1; omega, by have := HFAR.out.2.1; omega, by have := HFAR.out.2.2; omega⟩, fun _ => rfl⟩
      go_wp2_with fail
      go_meet
      case rel => exact HREL.out
    · have hgr := hgb
      simp only [Bool.and_eq_true, decide_eq_true_eq] at hgr
      obtain ⟨hg1, hg2⟩ := hgr
      have e1 : IntKind.u64.wrap (fc.bits + 256 * (fc.bits + 1)) = fc.bits + 256 * (fc.bits + 1) := by rw [IntKind.wrap_u64]; omega
      have hps := pstore_any HPR.out 1 HFAR.out (by decide) 2 (fc.bits + 256 * (fc.bits + 1)) (by decide) (u64_small _ (by omega))
      have HF2 := Lib.hid (HFAR.out.acc HPR.out.al 2 2 (fc.bits + 256 * (fc.bits + 1)))
      have c40 := hcell HBX.out.h4 0
      have c41 := hcell HBX.out.h4 1
      have c30 := hcell HBX.out.h3 0
      have HG1 := Lib.hid hg1
      clear hg1
      go_wp2_with (go_at_call 13; refine hps.mono ?_; rintro e W12 ⟨rfl, h12, f12⟩; have HPR2 := Lib.hid h12; have HBX2 := Lib.hid (HBX.out.fr f12 rfl rfl rfl); clear h12 f12 hps c40 c30 c41)
      go_meet
      case rel => exact ⟨_, _, HPR2.out, HBX2.out, HF2.out, fun h => by have := HG1.out; rw [h] at this; cases this⟩
  case rest =>
  clear HPR HBX HFAR htk0
  obtain ⟨s2, x2, hpr, hbx, hfar2, hs2⟩ := hcut
  have HPR2 := Lib.hid hpr; have HBX2 := Lib.hid hbx; have HFAR2 := Lib.hid hfar2; have HS2 := Lib.hid hs2
  clear hpr hbx hfar2 hs2
  go_upto_block 0 with (fail)
  go_cut [] (fun wx => Pr w wx B R { v0 fc with its := f.its } s2 x2 ∧ BxF f fc w.heap.size q4 (.pointer (some ⟨B.wb, 0, none⟩)) (.pointer (some ⟨R.wb, 0, none⟩)) wx)
  case first =>
    have cF2 := hcell HBX2.out.hF 6
    go_wp2_with fail
    clear cF2
    -- the records
    go_loopw [5] (fun i wr => ∃ k : Nat, k ≤ f.its.length ∧ i = .int .i64 k ∧ Pr w wr B R { v0 fc with its := f.its.take k } s2 x2 ∧ BxF f fc w.heap.size q4 (.pointer (some ⟨B.wb, 0, none⟩)) (.pointer (some ⟨R.wb, 0, none⟩)) wr) (fun i _ => f.its.length - (intOf i).toNat)
    case atStart => exact ⟨0, by omega, rfl, HPR2.out, HBX2.out⟩
    case round =>
      clear HPR2 HBX2
      obtain ⟨k, hk, rfl, hpr, hbx⟩ := hrel
      have hbw := hpr.ws.below
      have hni := HIN.out.ni
      by_cases hlt : k < f.its.length
      · obtain ⟨b, off, y, hia, hy, q0, q1, q2, q3, q4', q5⟩ := Itms.cell HIN.out.its k hlt
        have hg : b < w.heap.size := World.block_lt_of_cell? _ _ q0
        have q0 := (hbw.cell (p := ⟨b, _, none⟩) hg).trans q0
        have q1 := (hbw.cell (p := ⟨b, _, none⟩) hg).trans q1
        have q2 := (hbw.cell (p := ⟨b, _, none⟩) hg).trans q2
        have q3 := (hbw.cell (p := ⟨b, _, none⟩) hg).trans q3
        have q4' := (hbw.cell (p := ⟨b, _, none⟩) hg).trans q4'
        have q5 := (hbw.cell (p := ⟨b, _, none⟩) hg).trans q5
        have c6 : wr.cell? ⟨w.heap.size, 6, none⟩ = some (.slice f.ia f.its.length f.ic) := hcell hbx.hF 6
        rw [hia] at c6
        have x0 := fun st : ExtW wr => st.cell (hcell hbx.h4 0)
        have x1 := fun st : ExtW wr => st.cell (hcell hbx.h4 1)
        have x2' := fun st : ExtW wr => st.cell c6
        have z0 := fun st : ExtW wr => st.cell q0
        have z1 := fun st : ExtW wr => st.cell q1
        have z2 := fun st : ExtW wr => st.cell q2
        have z3 := fun st : ExtW wr => st.cell q3
        have z4 := fun st : ExtW wr => st.cell q4'
        have z5 := fun st : ExtW wr => st.cell q5
        have hst : ∀ W, Below wr.heap.size wr W → Calls Tryz.prog 28 #[.agg #[.pointer (some ⟨B.wb, 0, none⟩), .pointer (some ⟨R.wb, 0, none⟩)], .agg #[.string (y).key, .string (y).val, .int .u32 (y).flags, .int .u64 (y).id, .int .i64 (y).dies, .int .i64 (y).gen]] W fun e w' => e = .returned (.tuple #[]) ∧ Pr w w' B R { v0 fc with its := f.its.take k ++ [y] } s2 x2 ∧ Fr wrTy true W w' := fun W hW => pitem_any (hpr.keep hW) y (by simp; omega)
        have hty : f.its.take (k + 1) = f.its.take k ++ [y] := by rw [List.take_add_one, hy]; rfl
        have hlt' : (k : Int) < f.its.length := by omega
        have HST := Lib.hid hst; have HBX := Lib.hid hbx; have HTY := Lib.hid hty
        clear hpr hbx hbw q0 q1 q2 q3 q4' q5 hst hty hy hia hg
        go_wp2
        refine wp_region_segs [6] (by kernel_rfl) (by kernel_rfl) (by kernel_rfl) ?_
        simp only [Segs, List.take_succ_cons, List.take_zero, List.drop_succ_cons, List.drop_zero]
        repeat (go_big_quiet_step (fail))
        refine wpQuiet_nil ?_
        rintro W ⟨⟨W2, hW⟩, rfl⟩
        clear x0 x1 x2' z0 z1 z2 z3 z4 z5 c6
        refine seg_call rfl (by kernel_rfl) 28 #[.agg #[.pointer (some ⟨B.wb, 0, none⟩), .pointer (some ⟨R.wb, 0, none⟩)], .agg #[.string (y).key, .string (y).val, .int .u32 (y).flags, .int .u64 (y).id, .int .i64 (y).dies, .int .i64 (y).gen]] (by kernel_rfl) ?_
        refine (HST.out _ hW).mono ?_
        rintro e w12 ⟨rfl, h12, f12⟩
        refine ⟨_, rfl, ?_⟩
        refine wpQuiet_nil ?_
        rintro W3' ⟨⟨W4', hW3⟩, rfl⟩
        have HN := Lib.hid (And.intro (h12.keep hW3) (((HBX.out.below hW).fr f12 rfl rfl rfl).below hW3))
        clear hW h12 f12 hW3
        go_wp2
        go_roundw
        case rel => exact ⟨k + 1, by omega, by go_num, by rw [HTY.out]; exact HN.out.1, HN.out.2⟩
        case measure => simp [intOf]; omega
      · obtain rfl : k = f.its.length := by omega
        rw [List.take_length] at hpr
        have HREL := Lib.hid (And.intro hpr hbx)
        have c6 : wr.cell? ⟨w.heap.size, 6, none⟩ = some (.slice f.ia f.its.length f.ic) := hcell hbx.hF 6
        clear hpr hbx hbw hlt hk
        go_wp2_with fail
        go_meet
        case rel => exact HREL.out
  case rest =>
      obtain ⟨hpr, hbx⟩ := hcut
      have HPR3 := Lib.hid hpr; have HBX3 := Lib.hid hbx
      clear HPR2 HBX2
      have c6 : wc.cell? ⟨w.heap.size, 6, none⟩ = some (.slice f.ia f.its.length f.ic) := hcell hbx.hF 6
      clear hpr hbx
      go_upto_block 2 with (fail)
      go_cut [] (fun wx => ∃ s3 x3, Pr w wx B R { v0 fc with its := f.its } s3 x3 ∧ BxF f fc w.heap.size q4 (.pointer (some ⟨B.wb, 0, none⟩)) (.pointer (some ⟨R.wb, 0, none⟩)) wx ∧ Far s3 x3 122 ∧ (f.puts = [] → s3 = s2))
      case first =>
        go_wp2_with fail
        -- the puts
        go_loopw [6] (fun i wr => ∃ (k : Nat) (s : CS) (x : RS), k ≤ f.puts.length ∧ i = .int .i64 k ∧ Pr w wr B R { v0 fc with its := f.its } s x ∧ BxF f fc w.heap.size q4 (.pointer (some ⟨B.wb, 0, none⟩)) (.pointer (some ⟨R.wb, 0, none⟩)) wr ∧ Far s x (2 + 2 * k) ∧ (k = 0 → s = s2)) (fun i _ => f.puts.length - (intOf i).toNat)
        case atStart => exact ⟨0, _, _, by omega, rfl, HPR3.out, HBX3.out, HFAR2.out, fun _ => rfl⟩
        case round =>
          clear HPR3 HBX3
          obtain ⟨k, s, x, hk, rfl, hpr, hbx, hfar, hks⟩ := hrel
          have hbw := hpr.ws.below
          have hnp := HIN.out.np
          have c6 : wr.cell? ⟨w.heap.size, 6, none⟩ = some (.slice f.ia f.its.length f.ic) := hcell hbx.hF 6
          have c7 : wr.cell? ⟨w.heap.size, 7, none⟩ = some (.slice f.pa f.puts.length f.pc) := hcell hbx.hF 7
          by_cases hlt : k < f.puts.length ∧ 0 < f.its.length
          · obtain ⟨hlt, hi0⟩ := hlt
            obtain ⟨b, off, px, py, pz, hpa, hbd, q0, q1, q2⟩ := HIN.out.puts.at k hlt
            have hg : b < w.heap.size := World.block_lt_of_cell? _ _ q0
            have q0 := (hbw.cell (p := ⟨b, _, none⟩) hg).trans q0
            have q1 := (hbw.cell (p := ⟨b, _, none⟩) hg).trans q1
            have q2 := (hbw.cell (p := ⟨b, _, none⟩) hg).trans q2
            rw [hpa] at c7
            have x0 := fun st : ExtW wr => st.cell (hcell hbx.h4 0)
            have x1 := fun st : ExtW wr => st.cell (hcell hbx.h4 1)
            have x2' := fun st : ExtW wr => st.cell c6
            have x3 := fun st : ExtW wr => st.cell c7
            have z0 := fun st : ExtW wr => st.cell q0
            have z1 := fun st : ExtW wr => st.cell q1
            have z2 := fun st : ExtW wr => st.cell q2
            have hst : ∀ W, Below wr.heap.size wr W → Calls Tryz.prog 48 #[.agg #[.pointer (some ⟨B.wb, 0, none⟩), .pointer (some ⟨R.wb, 0, none⟩)], .agg #[.int .u8 px, .int .u8 py, .int .u8 pz], .int .i64 f.its.length] W (PutPost w W B R { v0 fc with its := f.its } (2 + 2 * k)) := fun W hW => pput_any (hpr.keep hW) (2 + 2 * k) hfar (by omega) HIN.out.key (by have := HIN.out.ni; simp only; omega) f.its.length ⟨by omega, by have := HIN.out.ni; omega⟩ px py pz hbd.1 hbd.2.1 hbd.2.2
            have hlt' : (k : Int) < f.puts.length := by omega
            have hi0' : (0 : Int) < f.its.length := by omega
            have HST := Lib.hid hst; have HBX := Lib.hid hbx
            clear hpr hbx hbw q0 q1 q2 hst hpa hg hbd hfar hks
            go_wp2
            refine wp_region_segs [9] (by kernel_rfl) (by kernel_rfl) (by kernel_rfl) ?_
            simp only [Segs, List.take_succ_cons, List.take_zero, List.drop_succ_cons, List.drop_zero]
            repeat (go_big_quiet_step (fail))
            refine wpQuiet_nil ?_
            rintro W ⟨⟨W2, hW⟩, rfl⟩
            clear x0 x1 x2' x3 z0 z1 z2 c6 c7
            refine seg_call rfl (by kernel_rfl) 48 #[.agg #[.pointer (some ⟨B.wb, 0, none⟩), .pointer (some ⟨R.wb, 0, none⟩)], .agg #[.int .u8 px, .int .u8 py, .int .u8 pz], .int .i64 f.its.length] (by kernel_rfl) ?_
            refine (HST.out _ hW).mono ?_
            rintro e w12 ⟨rfl, s', x', h12, hfar', f12⟩
            refine ⟨_, rfl, ?_⟩
            refine wpQuiet_nil ?_
            rintro W3' ⟨⟨W4', hW3⟩, rfl⟩
            have HN := Lib.hid (And.intro (h12.keep hW3) (((HBX.out.below hW).fr f12 rfl rfl rfl).below hW3))
            have HFN : Hid (Far s' x' (2 + 2 * (k + 1))) := hfar'
            clear hW h12 f12 hW3 hfar'
            go_wp2
            go_roundw
            case rel => exact ⟨k + 1, s', x', by omega, by go_num, HN.out.1, HN.out.2, HFN.out, fun h => by omega⟩
            case measure => simp [intOf]; omega
          · have HREL : Hid (∃ s3 x3, Pr w wr B R { v0 fc with its := f.its } s3 x3 ∧ BxF f fc w.heap.size q4 (.pointer (some ⟨B.wb, 0, none⟩)) (.pointer (some ⟨R.wb, 0, none⟩)) wr ∧ Far s3 x3 122 ∧ (f.puts = [] → s3 = s2)) :=
              ⟨s, x, hpr, hbx, ⟨by have := hfar.1; omega, by have := hfar.2.1; omega, by have := hfar.2.2; omega⟩, fun h => hks (by rw [h] at hk; simpa using hk)⟩
            have hor : ¬ k < f.puts.length ∨ (k < f.puts.length ∧ ¬ 0 < f.its.length) := by omega
            clear hpr hbx hbw hfar hks hlt
            rcases hor with ho | ⟨ho1, ho2⟩
            · have ho' : (f.puts.length : Int) ≤ k := by omega
              go_wp2_with fail
              go_meet
              case rel => exact HREL.out
            · have ho1' : (k : Int) < f.puts.length := by omega
              have ho2' : (f.its.length : Int) ≤ 0 := by omega
              go_wp2_with fail
              go_meet
              case rel => exact HREL.out
      case rest =>
      clear HPR3 HBX3 c6
      obtain ⟨s, x, hpr, hbx, hfar, hks⟩ := hcut
      have HPR4 := Lib.hid hpr; have HBX4 := Lib.hid hbx; have HFAR4 := Lib.hid hfar; have HKS := Lib.hid hks
      clear hpr hbx hfar hks
      go_upto_block 4 with (fail)
      go_cut [] (fun wx => ∃ s4 x4, Pr w wx B R { v0 fc with its := f.its } s4 x4 ∧ BxF f fc w.heap.size q4 (.pointer (some ⟨B.wb, 0, none⟩)) (.pointer (some ⟨R.wb, 0, none⟩)) wx ∧ Far s4 x4 162 ∧ (f.ticks ≤ 0 → s4 = s))
      case first =>
        go_wp2_with fail
        go_loopw [7] (fun i wr => ∃ (k : Nat) (s' : CS) (x' : RS), k ≤ 40 ∧ i = .int .i64 k ∧ Pr w wr B R { v0 fc with its := f.its } s' x' ∧ BxF f fc w.heap.size q4 (.pointer (some ⟨B.wb, 0, none⟩)) (.pointer (some ⟨R.wb, 0, none⟩)) wr ∧ Far s' x' (122 + k) ∧ (k = 0 → s' = s) ∧ (0 < k → 0 < f.ticks)) (fun i _ => 40 - (intOf i).toNat)
        case atStart => exact ⟨0, _, _, by omega, rfl, HPR4.out, HBX4.out, HFAR4.out, fun _ => rfl, fun h => by omega⟩
        case round =>
          clear HPR4 HBX4
          obtain ⟨k2, s', x', hk2, rfl, hpr, hbx, hfar, hks, hkt⟩ := hrel
          have c9 : wr.cell? ⟨w.heap.size, 9, none⟩ = some (.int .i64 f.ticks) := hcell hbx.hF 9
          have c40 := hcell hbx.h4 0
          have c41 := hcell hbx.h4 1
          by_cases hlt2 : (k2 : Int) < f.ticks ∧ k2 < 40
          · obtain ⟨ht1, ht2⟩ := hlt2
            have ht2' : (k2 : Int) < 40 := by omega
            have htk := ptick_any hpr (122 + k2) hfar (by omega)
            have HBX := Lib.hid hbx
            have HF2 := Lib.hid (hfar.acc hpr.al 3 8 (eTick (s'.val 8)))
            clear hpr hbx hfar hks hkt
            go_wp2_with (go_at_call 29; refine htk.mono ?_; rintro e w12 ⟨rfl, h12, f12⟩; have HN := Lib.hid (And.intro h12 (HBX.out.fr f12 rfl rfl rfl)); clear h12 f12 htk c9 c40 c41)
            go_roundw
            case rel => exact ⟨k2 + 1, _, _, by omega, by go_num, HN.out.1, HN.out.2, HF2.out, fun h => by omega, fun _ => by omega⟩
            case measure => simp [intOf]; omega
          · have HREL : Hid (∃ s4 x4, Pr w wr B R { v0 fc with its := f.its } s4 x4 ∧ BxF f fc w.heap.size q4 (.pointer (some ⟨B.wb, 0, none⟩)) (.pointer (some ⟨R.wb, 0, none⟩)) wr ∧ Far s4 x4 162 ∧ (f.ticks ≤ 0 → s4 = s)) :=
              ⟨s', x', hpr, hbx, ⟨by have := hfar.1; omega, by have := hfar.2.1; omega, by have := hfar.2.2; omega⟩, fun h => hks (by by_cases c : k2 = 0; exact c; have := hkt (by omega); omega)⟩
            have hor : ¬ (k2 : Int) < f.ticks ∨ ((k2 : Int) < f.ticks ∧ ¬ k2 < 40) := by omega
            clear hpr hbx hfar hks hkt hlt2 c40 c41
            rcases hor with ho5 | ⟨ho5, ho6⟩
            · have ho5' : f.ticks ≤ (k2 : Int) := by omega
              go_wp2_with fail
              go_meet
              case rel => exact HREL.out
            · have ho6' : (40 : Int) ≤ (k2 : Int) := by omega
              go_wp2_with fail
              go_meet
              case rel => exact HREL.out
      case rest =>
      clear HPR4 HBX4
      obtain ⟨s', x', hpr, hbx, hfar, hks2⟩ := hcut
      have HPR5 := Lib.hid hpr; have HBX5 := Lib.hid hbx; have HFAR5 := Lib.hid hfar; have HKS2 := Lib.hid hks2
      clear hpr hbx hfar hks2
      go_upto_block 6 with (fail)
      go_cut [] (fun wx => ∃ s3 x3, Pr w wx B R { v0 fc with its := f.its } s3 x3 ∧ BxF f fc w.heap.size q4 (.pointer (some ⟨B.wb, 0, none⟩)) (.pointer (some ⟨R.wb, 0, none⟩)) wx ∧ Far s3 x3 300 ∧ (f.sts = [] → s3 = s'))
      case first =>
        have c8 : wc.cell? ⟨w.heap.size, 8, none⟩ = some (.slice f.sa f.sts.length f.sc) := hcell HBX5.out.hF 8
        go_wp2_with fail
        clear c8
        go_loopw [8] (fun i wr => ∃ (k : Nat) (s3 : CS) (x3 : RS), k ≤ f.sts.length ∧ i = .int .i64 k ∧ Pr w wr B R { v0 fc with its := f.its } s3 x3 ∧ BxF f fc w.heap.size q4 (.pointer (some ⟨B.wb, 0, none⟩)) (.pointer (some ⟨R.wb, 0, none⟩)) wr ∧ Far s3 x3 (162 + k) ∧ (k = 0 → s3 = s')) (fun i _ => f.sts.length - (intOf i).toNat)
        case atStart => exact ⟨0, _, _, by omega, rfl, HPR5.out, HBX5.out, HFAR5.out, fun _ => rfl⟩
        case round =>
          clear HPR5 HBX5
          obtain ⟨k3, s3, x3, hk3, rfl, hpr, hbx, hfar, hks⟩ := hrel
          have hbw := hpr.ws.below
          have hns := HIN.out.ns
          have c8 : wr.cell? ⟨w.heap.size, 8, none⟩ = some (.slice f.sa f.sts.length f.sc) := hcell hbx.hF 8
          by_cases hlt3 : k3 < f.sts.length
          · obtain ⟨b, off, sx, sy, hsa, hsx, hswf, q0, q1⟩ := HIN.out.sts.at k3 hlt3
            have hg : b < w.heap.size := World.block_lt_of_cell? _ _ q0
            have q0 := (hbw.cell (p := ⟨b, _, none⟩) hg).trans q0
            have q1 := (hbw.cell (p := ⟨b, _, none⟩) hg).trans q1
            rw [hsa] at c8
            have x0 := fun st : ExtW wr => st.cell (hcell hbx.h4 0)
            have x1 := fun st : ExtW wr => st.cell (hcell hbx.h4 1)
            have x2' := fun st : ExtW wr => st.cell c8
            have z0 := fun st : ExtW wr => st.cell q0
            have z1 := fun st : ExtW wr => st.cell q1
            have hst : ∀ W, Below wr.heap.size wr W → Calls Tryz.prog 13 #[.agg #[.pointer (some ⟨B.wb, 0, none⟩), .pointer (some ⟨R.wb, 0, none⟩)], .agg #[.int .u64 sx, .int .u64 sy]] W fun e w' => e = .returned (.tuple #[]) ∧ Pr w w' B R { v0 fc with its := f.its } (s3.acc 2 sx sy) (x3.acc 2 sx sy) ∧ Fr wrTy true W w' := fun W hW => pstore_any (hpr.keep hW) (162 + k3) hfar (by omega) sx sy hswf.1 hswf.2
            have hlt3' : (k3 : Int) < f.sts.length := by omega
            have HST := Lib.hid hst; have HBX := Lib.hid hbx
            have HF3 := Lib.hid (hfar.acc hpr.al 2 sx sy)
            clear hpr hbx hbw q0 q1 hst hsa hg hfar hks hsx hswf
            go_wp2
            refine wp_region_segs [6] (by kernel_rfl) (by kernel_rfl) (by kernel_rfl) ?_
            simp only [Segs, List.take_succ_cons, List.take_zero, List.drop_succ_cons, List.drop_zero]
            repeat (go_big_quiet_step (fail))
            refine wpQuiet_nil ?_
            rintro W ⟨⟨W2, hW⟩, rfl⟩
            clear x0 x1 x2' z0 z1 c8
            refine seg_call rfl (by kernel_rfl) 13 #[.agg #[.pointer (some ⟨B.wb, 0, none⟩), .pointer (some ⟨R.wb, 0, none⟩)], .agg #[.int .u64 sx, .int .u64 sy]] (by kernel_rfl) ?_
            refine (HST.out _ hW).mono ?_
            rintro e w12 ⟨rfl, h12, f12⟩
            refine ⟨_, rfl, ?_⟩
            refine wpQuiet_nil ?_
            rintro W3' ⟨⟨W4', hW3⟩, rfl⟩
            have HN := Lib.hid (And.intro (h12.keep hW3) (((HBX.out.below hW).fr f12 rfl rfl rfl).below hW3))
            clear hW h12 f12 hW3
            go_wp2
            go_roundw
            case rel => exact ⟨k3 + 1, _, _, by omega, by go_num, HN.out.1, HN.out.2, HF3.out, fun h => by omega⟩
            case measure => simp [intOf]; omega
          · obtain rfl : k3 = f.sts.length := by omega
            have HREL : Hid (∃ s3 x3, Pr w wr B R { v0 fc with its := f.its } s3 x3 ∧ BxF f fc w.heap.size q4 (.pointer (some ⟨B.wb, 0, none⟩)) (.pointer (some ⟨R.wb, 0, none⟩)) wr ∧ Far s3 x3 300 ∧ (f.sts = [] → s3 = s')) :=
              ⟨s3, x3, hpr, hbx, ⟨by have := hfar.1; omega, by have := hfar.2.1; omega, by have := hfar.2.2; omega⟩, fun h => hks (by rw [h]; rfl)⟩
            clear hpr hbx hbw hfar hks hlt3
            go_wp2_with fail
            go_meet
            case rel => exact HREL.out
      case rest =>
      clear HPR5 HBX5
      obtain ⟨s3, x3, hpr, hbx, hfar6, hks3⟩ := hcut
      have HPR6 := Lib.hid hpr; have HBX6 := Lib.hid hbx; have HFAR6 := Lib.hid hfar6; have HKS3 := Lib.hid hks3
      have c40 := hcell hbx.h4 0
      have c41 := hcell hbx.h4 1
      have e20 := hcell hbx.h2 0
      have e21 := hcell hbx.h2 1
      have ef := hfrz hbx.h2
      clear hpr hbx hfar6 hks3
      go_upto_region 27 with (fail)
      iterate 11 (first | go_says fail | go_values | go_skip | go_guarded | go_step | go_upon | go_back)
      have h2s := setCell_same (setCell_same HBX6.out.h2 0 (.pointer (some ⟨B.wb, 0, none⟩))) 1 (.pointer (some ⟨R.wb, 0, none⟩))
      have r0 := hcell h2s 0
      have r1 := hcell h2s 1
      refine bodyPost_ret (v := .agg #[.pointer (some ⟨B.wb, 0, none⟩), .pointer (some ⟨R.wb, 0, none⟩)]) (by simp [results, Tryz.results9, go_sem, r0, r1]; done) rfl ?_
      have hf2 := (setPair_fr HBX6.out.h2 0 (.pointer (some ⟨B.wb, 0, none⟩))).trans (setPair_fr (setCell_same HBX6.out.h2 0 (.pointer (some ⟨B.wb, 0, none⟩))) 1 (.pointer (some ⟨R.wb, 0, none⟩)))
      have hB2 := below_set (o := 1) (v := .pointer (some ⟨R.wb, 0, none⟩)) (below_set (o := 0) (v := .pointer (some ⟨B.wb, 0, none⟩)) HPR6.out.ws.below (Nat.le_succ _)) (Nat.le_succ _)
      exact ⟨B, R, _, s3, x3, rfl, ⟨HPR6.out.ws.fr hf2 pairTy_w hB2, HPR6.out.rd.fr hf2 pairTy_r hB2, HPR6.out.al⟩, by rw [show f.conf = fc from HFC.out], HFAR6.out, by rw [show f.conf = fc from HFC.out]; exact HOK.out, fun g1 g2 g3 g4 => by
        rw [HKS3.out g3, HKS2.out g4, HKS.out g2, HS2.out g1, show f.conf = fc from HFC.out]; exact HS1.out.symm⟩
end Go.Proofs.YtmakjfeepmiggaaGreat