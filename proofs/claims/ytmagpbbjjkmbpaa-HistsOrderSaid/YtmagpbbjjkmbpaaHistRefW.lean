/-
  The document's Well of a history.
-/
import Derived.Test.YtmagpbbjjkmbpaaHistRefC
namespace Go.Proofs.Ytmagpbbjjkmbpaa
open Go.RowKit Go.Maps Go.Sort
set_option linter.unusedVariables false

theorem rrow_at {w : World} {base : Nat} {v : Value} {O : List En} (h : RRow w base v O) (i : Nat) (x : En) (hx : O[i]? = some x) : ∃ g cap, v = .slice (some ⟨g, 0, none⟩) O.length cap ∧ w.cell? ⟨g, i * 3, none⟩ = some (.int .i64 x.st) ∧ w.cell? ⟨g, i * 3 + 1, none⟩ = some (.int .i64 x.ca) ∧ w.cell? ⟨g, i * 3 + 2, none⟩ = some (.int .i64 x.dr) := by
  have hi := (List.getElem?_eq_some_iff.1 hx).1
  obtain ⟨g, cap, rfl⟩ : ∃ g cap, v = .slice (some ⟨g, 0, none⟩) O.length cap := by
    obtain ⟨-, ⟨e, h0⟩ | ⟨g, cap, cur, e, -⟩⟩ := h
    · omega
    · exact ⟨g, cap, e⟩
  obtain ⟨a, b, c, -, -⟩ := own_cellE h i x hx
  exact ⟨g, cap, rfl, a, b, c⟩
set_option maxRecDepth 100000 in
set_option maxHeartbeats 8000000 in
theorem rwell_any (h : Hst) (w : World) (hr : HstRd w h) (h1 : h.cs.length ≤ 120) (h2 : h.ds.length ≤ 60) :
    Calls Try.prog 15 #[.agg #[.slice h.ca h.cs.length h.cc, .slice h.da h.ds.length h.dc]] w (WellPost h w) := by
  have hB := hballoc w (.cells h.cells 32)
  have z := heap_alloc_new w (.cells h.cells 32)
  have HR := Lib.hid (hr.below hB); have HB := Lib.hid hB; have HZ := Lib.hid z
  have HS := Lib.hid (show w.heap.size < (w.alloc (.cells h.cells 32)).heap.size by simp)
  clear hr hB z
  go_enter Try.func15, Try.ntmps15
  go_upto_region 1 with (fail)
  change Code.wp _ _ _ _ (w.alloc (.cells h.cells 32))
  obtain ⟨w1, hw1⟩ : ∃ w1, w1 = w.alloc (.cells h.cells 32) := ⟨_, rfl⟩
  rw [← hw1] at HR HB HZ HS ⊢
  clear hw1
  have hc0 : (h.cs.length : Int) ≤ 120 := by omega
  have H1 := Lib.hid h1; have H2 := Lib.hid h2
  clear h1 h2
  go_wp2_with fail
  go_loopw [3, 4, 5] (fun i _ _ wr => ∃ k : Nat, k ≤ h.cs.length ∧ i = .int .i64 k ∧ Hid (CwOk (cws (h.cs.take k))) ∧ Hid (Below w1.heap.size w1 wr)) (fun i _ _ _ => h.cs.length - (intOf i).toNat)
  case atStart => exact ⟨0, by omega, rfl, Lib.hid (by simp [cws, CwOk]), Lib.hid (Below.refl _ _)⟩
  case round =>
    obtain ⟨k, hk, rfl, HO, HBW⟩ := hrel
    have c0 : wr.cell? ⟨w.heap.size, 0, none⟩ = some (.slice h.ca h.cs.length h.cc) := hblk ((HBW.out.block _ (Array.getElem?_eq_some_iff.1 HZ.out).1).trans HZ.out) 0
    have HS1 := Lib.hid HBW.out.size
    by_cases hlt : k < h.cs.length
    · have hlt' : (k : Int) < h.cs.length := by omega
      obtain ⟨b, off, x, cl, hca, hx, hcl, hsz, h1c, hld⟩ := (HR.out.cs.below HBW.out).whole k hlt
      have hi20 : (Try.prog.info? 55).map (·.size) = some cl.length := by rw [hsz]; kernel_rfl
      have HX := Lib.hid hx; have HLT := Lib.hid hlt; have H1C := Lib.hid h1c; have HLD := Lib.hid hld; have HI20 := Lib.hid hi20; have HSZ := Lib.hid hsz; have HCL := Lib.hid hcl
      rw [hca] at c0
      have HCA := Lib.hid hca
      clear hca hx hlt hk h1c hld hcl hsz hi20
      go_upto_region 5 with (first
        | (refine wpList_load_mid rfl 55 (.tmp 18) rfl b (off + k * 20) rfl cl _ HLD.out Try.underlying55 rfl HI20.out ?_)
        | (refine wpList_store_new rfl 55 (.tmp 4) (.tmp 19) rfl wr _ cl.toArray rfl rfl HI20.out (by simp [HSZ.out]) H1C.out ?_))
      go_frame
      clear c0
      have hb5 := hballoc wr (.cells cl.toArray 55)
      have hz5 := heap_alloc_new wr (.cells cl.toArray 55)
      generalize hp5 : wr.heap.size = p5 at *
      have HP5 := Lib.hid hp5
      generalize wr.alloc (.cells cl.toArray 55) = w5 at *
      rw [HCL.out] at hz5
      have q0 : w5.cell? ⟨p5, 0, none⟩ = some (.int .i64 x.th) := hblk hz5 0
      have q8 : w5.cell? ⟨p5, 8, none⟩ = some (.int .i64 x.fr) := hblk hz5 8
      have q9 : w5.cell? ⟨p5, 9, none⟩ = some (.int .i64 x.to) := hblk hz5 9
      have q19 : w5.cell? ⟨p5, 19, none⟩ = some (.int .i64 x.pt) := hblk hz5 19
      have HB5 := Lib.hid (HBW.out.trans (hb5.mono HS1.out))
      have HZ5 := Lib.hid hz5
      clear hb5 hz5 hp5 HBW H1C HLD HI20 HSZ HCL
      have no : Hid (¬ x.cw.ok → ¬ Wel (cws h.cs) (HD.sts h.ds)) := Lib.hid fun hn => no_wel HX.out (fun c => hn ((cwok_snoc' HO.out _).1 c).1) _
      by_cases t1 : x.th < 0
      · have b1 : decide (x.th < 0) = true := decide_eq_true t1
        have N := Lib.hid (no.out fun c => by have := c.1; unfold HC.cw at this; simp at this; omega)
        clear t1 no
        go_wp2
        go_ret
        exact ⟨false, rfl, HB.out.trans (HB5.out.mono HB.out.size), ⟨by simp, fun c => absurd c N.out⟩⟩
      · have b1 : decide (x.th < 0) = false := decide_eq_false t1
        by_cases t2 : 63 < x.th
        · have b2 : decide (63 < x.th) = true := decide_eq_true t2
          have N := Lib.hid (no.out fun c => by have := c.2.1; unfold HC.cw at this; simp at this; omega)
          clear t1 t2 no
          go_wp2
          go_ret
          exact ⟨false, rfl, HB.out.trans (HB5.out.mono HB.out.size), ⟨by simp, fun c => absurd c N.out⟩⟩
        · have b2 : decide (63 < x.th) = false := decide_eq_false t2
          by_cases t3 : x.fr < 0
          · have b3 : decide (x.fr < 0) = true := decide_eq_true t3
            have N := Lib.hid (no.out fun c => by have := c.2.2.1; unfold HC.cw at this; simp at this; omega)
            clear t1 t2 t3 no
            go_wp2
            go_ret
            exact ⟨false, rfl, HB.out.trans (HB5.out.mono HB.out.size), ⟨by simp, fun c => absurd c N.out⟩⟩
          · have b3 : decide (x.fr < 0) = false := decide_eq_false t3
            by_cases t4 : x.pt ≤ x.fr
            · have b4 : decide (x.pt ≤ x.fr) = true := decide_eq_true t4
              have N := Lib.hid (no.out fun c => by have := c.2.2.2.1; unfold HC.cw at this; simp at this; omega)
              clear t1 t2 t3 t4 no
              go_wp2
              go_ret
              exact ⟨false, rfl, HB.out.trans (HB5.out.mono HB.out.size), ⟨by simp, fun c => absurd c N.out⟩⟩
            · have b4 : decide (x.pt ≤ x.fr) = false := decide_eq_false t4
              by_cases t5 : x.to < x.pt
              · have b5 : decide (x.to < x.pt) = true := decide_eq_true t5
                have N := Lib.hid (no.out fun c => by have := c.2.2.2.2; unfold HC.cw at this; simp at this; omega)
                clear t1 t2 t3 t4 t5 no
                go_wp2
                go_ret
                exact ⟨false, rfl, HB.out.trans (HB5.out.mono HB.out.size), ⟨by simp, fun c => absurd c N.out⟩⟩
              · have b5 : decide (x.to < x.pt) = false := decide_eq_false t5
                have OK := Lib.hid (show x.cw.ok from ⟨by unfold HC.cw; simp; omega, by unfold HC.cw; simp; omega, by unfold HC.cw; simp; omega, by unfold HC.cw; simp; omega, by unfold HC.cw; simp; omega⟩)
                clear t1 t2 t3 t4 t5 no
                have HQ := Lib.hid (And.intro q0 q8)
                have HS5 := Lib.hid HB5.out.size
                have hkk : (k : Int) < 120 := by have := HLT.out; omega
                go_wp2_with fail
                go_loopw [5] (fun i wx => ∃ j : Nat, j ≤ k ∧ i = .int .i64 j ∧ Hid (∀ d ∈ cws (h.cs.take j), d.th = x.th → d.to ≤ x.fr) ∧ Hid (Below w5.heap.size w5 wx)) (fun i _ => k - (intOf i).toNat)
                case atStart => exact ⟨0, by omega, rfl, Lib.hid (by simp [cws]), Lib.hid (Below.refl _ _)⟩
                case round =>
                  obtain ⟨j, hj, rfl, HJ, HX5⟩ := hrel
                  clear q0 q8 q9 q19 b1 b2 b3 b4 b5
                  have HBX := Lib.hid (HB5.out.trans (HX5.out.mono HS5.out))
                  by_cases hjk : j < k
                  · have hjk' : (j : Int) < k := by omega
                    obtain ⟨b', off', y, hca, hy, hwf, g0, g1, g2, g3, g4, g5, g6, g7, g8, g9, gs⟩ := (HR.out.cs.below HBX.out).at j (by have := HLT.out; omega)
                    clear g1 g2 g3 g4 g5 g6 g7 g8 gs hwf
                    have zq := (HBX.out.block _ (Array.getElem?_eq_some_iff.1 HZ.out).1).trans HZ.out
                    have c0 : wr.cell? ⟨w.heap.size, 0, none⟩ = some (.slice h.ca h.cs.length h.cc) := hblk zq 0
                    have zp := (HX5.out.block _ (Array.getElem?_eq_some_iff.1 HZ5.out).1).trans HZ5.out
                    have d0 : wr.cell? ⟨p5, 0, none⟩ = some (.int .i64 x.th) := hblk zp 0
                    have d8 : wr.cell? ⟨p5, 8, none⟩ = some (.int .i64 x.fr) := hblk zp 8
                    rw [hca] at c0
                    have hj2 : (j : Int) < h.cs.length := by have := HLT.out; omega
                    have HY := Lib.hid hy; have HJK := Lib.hid hjk
                    clear hca hy hjk hj zq zp
                    have x1 := fun st : ExtW wr => st.cell c0
                    have x2 := fun st : ExtW wr => st.cell d0
                    have x3 := fun st : ExtW wr => st.cell d8
                    have x4 := fun st : ExtW wr => st.cell g0
                    have x5 := fun st : ExtW wr => st.cell g9
                    clear c0 d0 d8 g0 g9
                    have step : Hid ((y.th = x.th → y.to ≤ x.fr) → ∀ d ∈ cws (h.cs.take (j + 1)), d.th = x.th → d.to ≤ x.fr) := Lib.hid fun hh d hd => by
                      rw [cws_take _ _ _ HY.out] at hd
                      rcases List.mem_append.1 hd with hd | hd
                      · exact HJ.out d hd
                      · simp only [List.mem_singleton] at hd
                        subst hd; exact hh
                    by_cases e1 : y.th = x.th
                    · have f1 : (y.th == x.th) = true := beq_iff_eq.2 e1
                      by_cases e2 : x.fr < y.to
                      · have f2 : decide (x.fr < y.to) = true := decide_eq_true e2
                        have N : Hid (¬ Wel (cws h.cs) (HD.sts h.ds)) := Lib.hid (no_wel HX.out (fun c => by
                          have h2 := ((cwok_snoc' HO.out _).1 c).2 y.cw (by
                            have h3 : (h.cs.take k)[j]? = some y := by rw [List.getElem?_take, if_pos HJK.out]; exact HY.out
                            exact List.mem_map.2 ⟨y, List.mem_of_getElem? h3, rfl⟩) e1
                          have h4 : y.to ≤ x.fr := h2
                          omega) _)
                        clear e1 e2 step
                        go_upto_region 10 with (fail)
                        refine wp_region_ext (by kernel_rfl) (by kernel_rfl) ?_
                        repeat (go_big_quiet_step (fail))
                        refine wpQuiet_nil ?_
                        rintro W ⟨⟨W2, hW⟩, rfl⟩
                        have HW := Lib.hid hW
                        clear hW x1 x2 x3 x4 x5
                        go_wp2
                        go_ret
                        exact ⟨false, rfl, HB.out.trans ((HBX.out.trans (HW.out.mono HBX.out.size)).mono HB.out.size), ⟨by simp, fun c => absurd c N.out⟩⟩
                      · have f2 : decide (x.fr < y.to) = false := decide_eq_false e2
                        have HST := Lib.hid (step.out fun _ => by omega)
                        clear e1 e2 step
                        go_upto_region 10 with (fail)
                        refine wp_region_ext (by kernel_rfl) (by kernel_rfl) ?_
                        repeat (go_big_quiet_step (fail))
                        refine wpQuiet_nil ?_
                        rintro W ⟨⟨W2, hW⟩, rfl⟩
                        have HW := Lib.hid (HX5.out.trans (hW.mono HX5.out.size))
                        clear hW x1 x2 x3 x4 x5
                        go_wp2
                        go_roundw
                        case rel => exact ⟨j + 1, HJK.out, by go_num, HST, HW⟩
                        case measure => have := HJK.out; simp [intOf]; omega
                    · have f1 : (y.th == x.th) = false := beq_eq_false_iff_ne.2 e1
                      have HST := Lib.hid (step.out fun c => absurd c e1)
                      clear e1 step
                      go_upto_region 10 with (fail)
                      refine wp_region_ext (by kernel_rfl) (by kernel_rfl) ?_
                      repeat (go_big_quiet_step (fail))
                      refine wpQuiet_nil ?_
                      rintro W ⟨⟨W2, hW⟩, rfl⟩
                      have HW := Lib.hid (HX5.out.trans (hW.mono HX5.out.size))
                      clear hW x1 x2 x3 x4 x5
                      go_wp2
                      go_roundw
                      case rel => exact ⟨j + 1, HJK.out, by go_num, HST, HW⟩
                      case measure => have := HJK.out; simp [intOf]; omega
                  · obtain rfl : j = k := by omega
                    have HN : Hid (CwOk (cws (h.cs.take (j + 1)))) := Lib.hid (by rw [cws_take _ _ _ HX.out]; exact (cwok_snoc' HO.out _).2 ⟨OK.out, HJ.out⟩)
                    clear hj hjk
                    go_wp2
                    go_roundw
                    case rel => exact ⟨j + 1, HLT.out, by go_num, HN, HBX⟩
                    case measure => have := HLT.out; simp [intOf]; omega
    · obtain rfl : k = h.cs.length := by omega
      rw [List.take_length] at HO
      have hrd : HstRd wr h := HR.out.below HBW.out
      have HCL := Lib.hid (rorder_any h wr hrd H1.out H2.out)
      have c1 : wr.cell? ⟨w.heap.size, 1, none⟩ = some (.slice h.da h.ds.length h.dc) := hblk ((HBW.out.block _ (Array.getElem?_eq_some_iff.1 HZ.out).1).trans HZ.out) 1
      clear hk hlt hrd
      go_wp2_with (go_at_call 11; refine HCL.out.mono ?_; intro e w3 hh; have HH := Lib.hid hh; clear hh; obtain ⟨v', O, hh1, q⟩ := HH.out; subst hh1; have HQ := Lib.hid q; clear q)
      obtain ⟨a, cap, rfl⟩ := own_sl34 HQ.out.1
      have hlen : O.length ≤ 180 := by
        have h1 := HQ.out.2.1.len
        have h2 := H1.out; have h3 := H2.out
        simp only [HC.pts, HD.sts, List.length_map] at h1
        omega
      have hlen2 : (O.length : Int) ≤ 180 := by omega
      have HB3 := Lib.hid (HB.out.trans ((HBW.out.trans (HQ.out.2.2.mono HBW.out.size)).mono HB.out.size))
      have HOR := Lib.hid HQ.out.2.1
      have HRW := Lib.hid HQ.out.1
      have FIN : Hid (Wel (cws h.cs) (HD.sts h.ds) ↔ (O.map En.st).Nodup) := Lib.hid (by
        rw [wel_iff h HOR.out]
        exact ⟨fun c => c.2, fun c => ⟨HO.out, c⟩⟩)
      have ADJ : Hid ((O.map En.st).Nodup ↔ ∀ i, (hi : i + 1 < O.length) → (O[i + 1]).st ≠ (O[i]'(by omega)).st) := Lib.hid (by
        have := nodup_adj (l := O.map En.st) (fun i j hi hj => by simpa using HOR.out.le i j hi (by simpa using hj))
        simpa using this)
      clear hlen c0 c1 HQ
      go_loopw [7] (fun i wr => ∃ j : Nat, i = .int .i64 ((j : Int) + 1) ∧ Hid (∀ q, q < j → ∃ (hq : q + 1 < O.length), (O[q + 1]).st ≠ (O[q]'(by omega)).st) ∧ Hid (Below w3.heap.size w3 wr)) (fun i _ => O.length + 2 - (intOf i).toNat)
      case atStart => exact ⟨0, rfl, Lib.hid (fun q hq => by omega), Lib.hid (Below.refl _ _)⟩
      case round =>
        obtain ⟨j, rfl, HJ, HW4⟩ := hrel
        by_cases hj : j + 1 < O.length
        · have hj1 : (j : Int) + 1 < O.length := by omega
          have hrw := own_bel HRW.out HW4.out
          obtain ⟨g, cap', hv, p0, -, -⟩ := rrow_at hrw (j + 1) O[j + 1] (List.getElem?_eq_getElem hj)
          obtain ⟨g2, cap2, hv2, p1, -, -⟩ := rrow_at hrw j O[j] (List.getElem?_eq_getElem (by omega))
          simp only [Value.slice.injEq] at hv hv2
          obtain ⟨rfl, -, -⟩ := hv
          obtain ⟨hv2, -, -⟩ := hv2
          simp only [Option.some.injEq, Addr.mk.injEq, and_true] at hv2
          subst hv2
          generalize hy0 : O[j + 1].st = y0 at p0
          generalize hy1 : O[j].st = y1 at p1
          have HY := Lib.hid (And.intro hy0 hy1); have HJ1 := Lib.hid hj
          have x1 := fun st : ExtW wr => st.cell p0
          have x2 := fun st : ExtW wr => st.cell p1
          clear p0 p1 hy0 hy1 hrw
          by_cases e1 : y0 = y1
          · have f1 : (y0 == y1) = true := beq_iff_eq.2 e1
            have N : Hid (¬ Wel (cws h.cs) (HD.sts h.ds)) := Lib.hid (fun c => (ADJ.out.1 (FIN.out.1 c)) j HJ1.out (by rw [HY.out.1, HY.out.2]; exact e1))
            clear e1
            go_upto_region 16 with (fail)
            refine wp_region_ext (by kernel_rfl) (by kernel_rfl) ?_
            repeat (go_big_quiet_step (fail))
            refine wpQuiet_nil ?_
            rintro W ⟨⟨W2, hW⟩, rfl⟩
            have HW := Lib.hid (HW4.out.trans (hW.mono HW4.out.size))
            clear hW x1 x2
            go_wp2
            go_ret
            exact ⟨false, rfl, HB3.out.trans (HW.out.mono HB3.out.size), ⟨by simp, fun c => absurd c N.out⟩⟩
          · have f1 : (y0 == y1) = false := beq_eq_false_iff_ne.2 e1
            have E1 := Lib.hid e1
            clear e1
            go_upto_region 16 with (fail)
            refine wp_region_ext (by kernel_rfl) (by kernel_rfl) ?_
            repeat (go_big_quiet_step (fail))
            refine wpQuiet_nil ?_
            rintro W ⟨⟨W2, hW⟩, rfl⟩
            have HW := Lib.hid (HW4.out.trans (hW.mono HW4.out.size))
            clear hW x1 x2
            go_wp2
            go_roundw
            case rel =>
              refine ⟨j + 1, by go_num, Lib.hid (fun q hq => ?_), HW⟩
              by_cases hqj : q = j
              · subst hqj
                exact ⟨HJ1.out, by rw [HY.out.1, HY.out.2]; exact E1.out⟩
              · exact HJ.out q (by omega)
            case measure => have := HJ1.out; simp [intOf]; omega
        · have hj1 : ¬ ((j : Int) + 1 < O.length) := by omega
          have hj2 : decide ((j : Int) + 1 < O.length) = false := decide_eq_false hj1
          have HJ1 := Lib.hid hj
          clear hj hj1
          go_wp2
          go_ret
          refine ⟨true, rfl, HB3.out.trans (HW4.out.mono HB3.out.size), ⟨fun _ => FIN.out.2 (ADJ.out.2 fun i hi => ?_), fun _ => rfl⟩⟩
          exact (HJ.out i (by have := HJ1.out; omega)).2
end Go.Proofs.Ytmagpbbjjkmbpaa
