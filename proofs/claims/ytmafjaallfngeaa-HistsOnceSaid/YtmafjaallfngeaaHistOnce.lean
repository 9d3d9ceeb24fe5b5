/-
  HistsOnce: the walk.
-/
import Derived.Test.YtmafjaallfngeaaHistOnceLaw
import Derived.Deep.DeepCutAuto
import Derived.Deep.CutBlock
namespace Go.Proofs.Ytmafjaallfngeaa
open Go.RowKit Go.Maps Go.Sort
set_option linter.unusedVariables false

set_option maxRecDepth 100000 in
set_option maxHeartbeats 8000000 in
theorem once_any (h : Hst) (w : World) (hr : HstRd w h) :
    Calls Try.prog 3 #[.agg #[.slice h.ca h.cs.length h.cc, .slice h.da h.ds.length h.dc]] w fun e w' => e = .returned (.bool true) ∧ Below w.heap.size w w' := by
  have hB := hballoc w (.cells h.cells 25)
  have z := heap_alloc_new w (.cells h.cells 25)
  have HR := Lib.hid (hr.below hB); have HB := Lib.hid hB; have HZ := Lib.hid z
  clear hr hB z
  go_enter Try.func3, Try.ntmps3
  go_upto_region 1 with (fail)
  change Code.wp _ _ _ _ (w.alloc (.cells h.cells 25))
  obtain ⟨w1, hw1⟩ : ∃ w1, w1 = w.alloc (.cells h.cells 25) := ⟨_, rfl⟩
  rw [← hw1] at HR HB HZ ⊢
  clear hw1
  obtain ⟨q, hq⟩ : ∃ q, q = w.heap.size := ⟨_, rfl⟩
  rw [← hq] at HZ ⊢
  have c0 : w1.cell? ⟨q, 0, none⟩ = some (.slice h.ca h.cs.length h.cc) := hblk HZ.out 0
  have c1 : w1.cell? ⟨q, 1, none⟩ = some (.slice h.da h.ds.length h.dc) := hblk HZ.out 1
  have hgr := great34_any h w1 HR.out
  clear hq
  go_upto_if 10 with (go_at_call 8; refine hgr.mono ?_; rintro e w2 ⟨g, rfl, b2, hg⟩; have B2 := Lib.hid b2; have HG := Lib.hid hg; clear b2 hg hgr c0 c1; cases g)
  rotate_left
  · go_wp2_with (go_at_call 9; refine (lives34 _).mono ?_; rintro e w3 ⟨rfl, b3⟩)
    go_ret
    have h1 := HB.out.trans (B2.out.mono HB.out.size)
    exact ⟨rfl, h1.trans (b3.mono h1.size)⟩
  have H12 := Lib.hid (HG.out trivial)
  clear HG
  go_upto_region 4 with (fail)
  change Code.wp _ _ _ _ ((w2.alloc (.cells (Array.replicate 128 (.int .i64 0)) 28)).alloc (.cells (Array.replicate 128 (.int .i64 0)) 28))
  obtain ⟨pc, hpc⟩ : ∃ pc, pc = w2.heap.size := ⟨_, rfl⟩
  have b3 := hballoc w2 (.cells (Array.replicate 128 (.int .i64 0)) 28)
  have z3 := heap_alloc_new w2 (.cells (Array.replicate 128 (.int .i64 0)) 28)
  have s3 : (w2.alloc (.cells (Array.replicate 128 (.int .i64 0)) 28)).heap.size = w2.heap.size + 1 := by simp
  generalize w2.alloc (.cells (Array.replicate 128 (.int .i64 0)) 28) = w3 at *
  have b4 := hballoc w3 (.cells (Array.replicate 128 (.int .i64 0)) 28)
  have z4 := heap_alloc_new w3 (.cells (Array.replicate 128 (.int .i64 0)) 28)
  rw [s3] at z4
  generalize w3.alloc (.cells (Array.replicate 128 (.int .i64 0)) 28) = w4 at *
  obtain ⟨pd, hpd⟩ : ∃ pd, pd = w2.heap.size + 1 := ⟨_, rfl⟩
  rw [← hpd] at z4 ⊢
  rw [← hpc] at z3 ⊢
  have HC4 := Lib.hid (Cnt.below (Cnt.zero z3) b4)
  have HD4 := Lib.hid (Cnt.zero z4)
  have HPN := Lib.hid (show pc ≠ pd ∧ pd ≠ pc ∧ w1.heap.size ≤ pc ∧ w1.heap.size ≤ pd by have := B2.out.size; omega)
  have HB4 := Lib.hid (B2.out.trans ((b3.trans (b4.mono b3.size)).mono B2.out.size))
  clear b3 z3 s3 b4 z4 hpc hpd B2
  have zq := (HB4.out.block _ (Array.getElem?_eq_some_iff.1 HZ.out).1).trans HZ.out
  have c0 : w4.cell? ⟨q, 0, none⟩ = some (.slice h.ca h.cs.length h.cc) := hblk zq 0
  have c1 : w4.cell? ⟨q, 1, none⟩ = some (.slice h.da h.ds.length h.dc) := hblk zq 1
  have hord := order_any h w4 (HR.out.below HB4.out) H12.out.1 H12.out.2
  have HPW := Lib.hid (And.intro HC4.out.lt HD4.out.lt)
  clear zq
  go_upto_region 5 with (go_at_call 10; refine hord.mono ?_; rintro e w5 ⟨v, O, rfl, he, ho, hb5⟩; obtain ⟨oa, rfl, -⟩ := he.sl; have HE := Lib.hid he; have HO := Lib.hid ho; have HC5 := Lib.hid (HC4.out.below hb5); have HD5 := Lib.hid (HD4.out.below hb5); have HB5 := Lib.hid (HB4.out.trans (hb5.mono HB4.out.size)); clear he ho hb5 hord c0 c1)
  have hol := HO.out.len
  simp only [HC.pts, HD.sts, List.length_map] at hol
  have hl1 := H12.out.1
  have hl2 := H12.out.2
  have HOL := Lib.hid hol; have HL := Lib.hid (And.intro hl1 hl2)
  have ho180 : (O.length : Int) ≤ 180 := by omega
  clear hol HC4 HD4 hl1 hl2
  go_wp2_with fail
  go_loopw [6, 7] (fun i _ wr => ∃ k : Nat, k ≤ O.length ∧ i = .int .i64 k ∧ Hid (Cnt wr pc (cnC (O.take k)) ∧ Cnt wr pd (cnD (O.take k)) ∧ ERow wr w4.heap.size (.slice oa O.length O.length) O) ∧ Below w1.heap.size w1 wr) (fun i _ _ => O.length - (intOf i).toNat)
  case atStart => exact ⟨0, by omega, rfl, ⟨HC5.out, HD5.out, HE.out⟩, HB5.out⟩
  case round =>
    clear HC5 HD5 HE HB5
    obtain ⟨k, hk, rfl, P, hbw⟩ := hrel
    have HBW := Lib.hid hbw
    by_cases hlt : k < O.length
    · have hlt' : (k : Int) < O.length := by omega
      obtain ⟨g, x, rfl, hx, e0, e1, e2⟩ := P.out.2.2.at k hlt
      have HX := Lib.hid hx; have HLT := Lib.hid hlt
      have hprev : ∀ k', k = k' + 1 → ∃ y, wr.cell? ⟨g, k' * 3, none⟩ = some (.int .i64 y) ∧ y ≤ x.st := fun k' hk' => by
        obtain ⟨g2, y, hg2, hy, y0, -⟩ := P.out.2.2.at k' (by omega)
        cases hg2
        refine ⟨y.st, y0, ?_⟩
        have := HO.out.le k' k (by omega) hlt
        rw [(List.getElem?_eq_some_iff.1 hy).2, (List.getElem?_eq_some_iff.1 hx).2] at this
        exact this
      have hkind : (∃ i, ∃ hi : i < h.cs.length, x.ca = (i : Int) ∧ x.dr = -1 ∧ x.st = (h.cs[i]).pt) ∨ (∃ i, ∃ hi : i < h.ds.length, x.ca = -1 ∧ x.dr = (i : Int) ∧ x.st = (h.ds[i]).st) := by
        rcases HO.out.mem (List.mem_of_getElem? hx) with ⟨i, hi, rfl⟩ | ⟨i, hi, rfl⟩
        · exact .inl ⟨i, by simpa [HC.pts] using hi, rfl, rfl, by simp [HC.pts]⟩
        · exact .inr ⟨i, by simpa [HD.sts] using hi, rfl, rfl, by simp [HD.sts]⟩
      have HPREV := Lib.hid hprev; have HKIND := Lib.hid hkind
      clear hx hlt hk hprev hkind hbw
      go_upto_region 9 with (fail)
      have hb6 := hballoc wr (.cells #[.int .i64 x.st, .int .i64 x.ca, .int .i64 x.dr] 32)
      have hz6 := heap_alloc_new wr (.cells #[.int .i64 x.st, .int .i64 x.ca, .int .i64 x.dr] 32)
      clear e0 e1 e2
      have hsz : wr.heap.size < (wr.alloc (.cells #[.int .i64 x.st, .int .i64 x.ca, .int .i64 x.dr] 32)).heap.size := by simp
      generalize hpe : wr.heap.size = pe at hz6 hsz ⊢
      generalize wr.alloc (.cells #[.int .i64 x.st, .int .i64 x.ca, .int .i64 x.dr] 32) = w6 at *
      have P6 : Hid (Cnt w6 pc (cnC (O.take k)) ∧ Cnt w6 pd (cnD (O.take k)) ∧ ERow w6 w4.heap.size (.slice (some ⟨g, 0, none⟩) O.length O.length) O) := ⟨P.out.1.below hb6, P.out.2.1.below hb6, P.out.2.2.below hb6⟩
      have HB6 := Lib.hid (HBW.out.trans (hb6.mono HBW.out.size))
      have HPREV6 : Hid (∀ k', k = k' + 1 → ∃ y, w6.cell? ⟨g, k' * 3, none⟩ = some (.int .i64 y) ∧ y ≤ x.st) := fun k' hk' => by
        obtain ⟨y, y1, y2⟩ := HPREV.out k' hk'
        exact ⟨y, (hb6.cell (World.block_lt_of_cell? _ _ y1)).trans y1, y2⟩
      have HZ6 := Lib.hid hz6
      have HPE := Lib.hid (show pe < w6.heap.size ∧ w1.heap.size ≤ pe by have := HBW.out.size; omega)
      clear hb6 hz6 hsz hpe HPREV P HBW
      have zq := (HB6.out.block _ (Array.getElem?_eq_some_iff.1 HZ.out).1).trans HZ.out
      have c0 : w6.cell? ⟨q, 0, none⟩ = some (.slice h.ca h.cs.length h.cc) := hblk zq 0
      have c1 : w6.cell? ⟨q, 1, none⟩ = some (.slice h.da h.ds.length h.dc) := hblk zq 1
      have d0 : w6.cell? ⟨pe, 0, none⟩ = some (.int .i64 x.st) := hblk HZ6.out 0
      have d1 : w6.cell? ⟨pe, 1, none⟩ = some (.int .i64 x.ca) := hblk HZ6.out 1
      have d2 : w6.cell? ⟨pe, 2, none⟩ = some (.int .i64 x.dr) := hblk HZ6.out 2
      clear zq
      go_cut [61] (fun v61 wx => v61 = .bool false ∧ Below w6.heap.size w6 wx)
      case first =>
        rcases HKIND.out with ⟨i, hi, h1, h2, h3⟩ | ⟨i, hi, h1, h2, h3⟩
        · have b1 : decide ((i : Int) < 0) = false := decide_eq_false (by omega)
          have b2 : decide ((h.cs.length : Int) ≤ (i : Int)) = false := decide_eq_false (by omega)
          have b2n : decide (h.cs.length ≤ i) = false := decide_eq_false (by omega)
          have b3 : decide ((h.ds.length : Int) ≤ -1) = false := decide_eq_false (by omega)
          rw [h1] at d1; rw [h2] at d2
          clear h1 h2 h3 hi
          cases k with
          | zero =>
            generalize x.st = xs at *
            have x1 := fun st : ExtW w6 => st.cell c0
            have x2 := fun st : ExtW w6 => st.cell c1
            have x3 := fun st : ExtW w6 => st.cell d0
            have x4 := fun st : ExtW w6 => st.cell d1
            have x5 := fun st : ExtW w6 => st.cell d2
            clear c0 c1 d0 d1 d2
            refine wp_region_ext (by kernel_rfl) (by kernel_rfl) ?_
            repeat (go_big_quiet_step (fail))
            refine wpQuiet_nil ?_
            rintro W ⟨⟨W2, hW⟩, rfl⟩
            have HW := Lib.hid hW
            clear hW x1 x2 x3 x4 x5
            go_wp2
            all_goals go_meet
            all_goals exact ⟨rfl, HW.out⟩
          | succ k =>
            obtain ⟨y, y0, y1⟩ := HPREV6.out k rfl
            have b4 : decide (x.st < y) = false := decide_eq_false (by omega)
            have b5 : decide ((0 : Int) < (k : Int) + 1) = true := decide_eq_true (by omega)
            have b6 : (k : Int) < O.length := by have := HLT.out; omega
            have x9 := fun st : ExtW w6 => st.cell y0
            clear y0 y1
            generalize x.st = xs at *
            have x1 := fun st : ExtW w6 => st.cell c0
            have x2 := fun st : ExtW w6 => st.cell c1
            have x3 := fun st : ExtW w6 => st.cell d0
            have x4 := fun st : ExtW w6 => st.cell d1
            have x5 := fun st : ExtW w6 => st.cell d2
            clear c0 c1 d0 d1 d2
            refine wp_region_ext (by kernel_rfl) (by kernel_rfl) ?_
            repeat (go_big_quiet_step (fail))
            refine wpQuiet_nil ?_
            rintro W ⟨⟨W2, hW⟩, rfl⟩
            have HW := Lib.hid hW
            clear hW x1 x2 x3 x4 x5 x9
            go_wp2
            all_goals go_meet
            all_goals exact ⟨rfl, HW.out⟩
        · have b1 : decide ((i : Int) < 0) = false := decide_eq_false (by omega)
          have b2 : decide ((h.ds.length : Int) ≤ (i : Int)) = false := decide_eq_false (by omega)
          have b2n : decide (h.ds.length ≤ i) = false := decide_eq_false (by omega)
          have b3 : decide ((h.cs.length : Int) ≤ -1) = false := decide_eq_false (by omega)
          rw [h1] at d1; rw [h2] at d2
          clear h1 h2 h3 hi
          cases k with
          | zero =>
            generalize x.st = xs at *
            have x1 := fun st : ExtW w6 => st.cell c0
            have x2 := fun st : ExtW w6 => st.cell c1
            have x3 := fun st : ExtW w6 => st.cell d0
            have x4 := fun st : ExtW w6 => st.cell d1
            have x5 := fun st : ExtW w6 => st.cell d2
            clear c0 c1 d0 d1 d2
            refine wp_region_ext (by kernel_rfl) (by kernel_rfl) ?_
            repeat (go_big_quiet_step (fail))
            refine wpQuiet_nil ?_
            rintro W ⟨⟨W2, hW⟩, rfl⟩
            have HW := Lib.hid hW
            clear hW x1 x2 x3 x4 x5
            go_wp2
            all_goals go_meet
            all_goals exact ⟨rfl, HW.out⟩
          | succ k =>
            obtain ⟨y, y0, y1⟩ := HPREV6.out k rfl
            have b4 : decide (x.st < y) = false := decide_eq_false (by omega)
            have b5 : decide ((0 : Int) < (k : Int) + 1) = true := decide_eq_true (by omega)
            have b6 : (k : Int) < O.length := by have := HLT.out; omega
            have x9 := fun st : ExtW w6 => st.cell y0
            clear y0 y1
            generalize x.st = xs at *
            have x1 := fun st : ExtW w6 => st.cell c0
            have x2 := fun st : ExtW w6 => st.cell c1
            have x3 := fun st : ExtW w6 => st.cell d0
            have x4 := fun st : ExtW w6 => st.cell d1
            have x5 := fun st : ExtW w6 => st.cell d2
            clear c0 c1 d0 d1 d2
            refine wp_region_ext (by kernel_rfl) (by kernel_rfl) ?_
            repeat (go_big_quiet_step (fail))
            refine wpQuiet_nil ?_
            rintro W ⟨⟨W2, hW⟩, rfl⟩
            have HW := Lib.hid hW
            clear hW x1 x2 x3 x4 x5 x9
            go_wp2
            all_goals go_meet
            all_goals exact ⟨rfl, HW.out⟩
      case rest =>
      obtain ⟨rfl, hb7⟩ := hcut
      obtain ⟨w7, hw7⟩ : ∃ w7, w7 = wc := ⟨_, rfl⟩
      subst hw7
      have P7 : Hid (Cnt w7 pc (cnC (O.take k)) ∧ Cnt w7 pd (cnD (O.take k)) ∧ ERow w7 w4.heap.size (.slice (some ⟨g, 0, none⟩) O.length O.length) O) := ⟨P6.out.1.below hb7, P6.out.2.1.below hb7, P6.out.2.2.below hb7⟩
      have HB7 := Lib.hid (HB6.out.trans (hb7.mono HB6.out.size))
      have HZ7 := Lib.hid ((hb7.block _ (Array.getElem?_eq_some_iff.1 HZ6.out).1).trans HZ6.out)
      have zq := (HB7.out.block _ (Array.getElem?_eq_some_iff.1 HZ.out).1).trans HZ.out
      clear hb7 c0 c1 d0 d1 d2 P6 HB6 HPREV6
      have c0 : w7.cell? ⟨q, 0, none⟩ = some (.slice h.ca h.cs.length h.cc) := hblk zq 0
      have c1 : w7.cell? ⟨q, 1, none⟩ = some (.slice h.da h.ds.length h.dc) := hblk zq 1
      have d0 : w7.cell? ⟨pe, 0, none⟩ = some (.int .i64 x.st) := hblk HZ7.out 0
      have d1 : w7.cell? ⟨pe, 1, none⟩ = some (.int .i64 x.ca) := hblk HZ7.out 1
      have d2 : w7.cell? ⟨pe, 2, none⟩ = some (.int .i64 x.dr) := hblk HZ7.out 2
      clear zq
      rcases HKIND.out with ⟨i, hi, h1, h2, h3⟩ | ⟨i, hi, h1, h2, h3⟩
      all_goals (have KD := Lib.hid (And.intro h1 h2))
      · have hb8 := HR.out.below HB7.out
        obtain ⟨b, off, x9, hca, hx9, hwf, g0, g1, g2, g3, g4, g5, g6, g7, g8, g9, g10, g11, g12, g13, g14, g15, g16, g17, g18, g19⟩ := hb8.cs.at i hi
        clear g0 g1 g2 g3 g4 g5 g6 g7 g8 g9 g10 g11 g12 g13 g14 g15 g16 g17 g18 hwf hb8
        have hxx : x.st = x9.pt := by rw [h3]; exact congrArg HC.pt (List.getElem?_eq_some_iff.1 hx9).2
        rw [h1] at d1; rw [h2] at d2; rw [hxx] at d0
        rw [hca] at c0
        have b1 : decide ((0 : Int) ≤ (i : Int)) = true := decide_eq_true (by omega)
        have b1n : decide ((i : Int) < 0) = false := decide_eq_false (by omega)
        have b2 : (i : Int) < h.cs.length := by omega
        have HI := Lib.hid hi
        clear h1 h2 h3 hxx hx9 hi
        generalize x9.pt = xs at *
        have x1 := fun st : ExtW w7 => st.cell c0
        have x2 := fun st : ExtW w7 => st.cell c1
        have x3 := fun st : ExtW w7 => st.cell d0
        have x4 := fun st : ExtW w7 => st.cell d1
        have x5 := fun st : ExtW w7 => st.cell d2
        have x6 := fun st : ExtW w7 => st.cell g19
        clear c0 c1 d0 d1 d2 g19
        go_upto_region 11 with (fail)
        refine wp_region_ext (by kernel_rfl) (by kernel_rfl) ?_
        repeat (go_big_quiet_step (fail))
        refine wpQuiet_nil ?_
        rintro W ⟨⟨W2, hW⟩, rfl⟩
        clear x1 x2 x3 x4 x5 x6
        have HZ8 := Lib.hid ((hW.block _ (Array.getElem?_eq_some_iff.1 HZ7.out).1).trans HZ7.out)
        have P8 : Hid (Cnt W pc (cnC (O.take k)) ∧ Cnt W pd (cnD (O.take k)) ∧ ERow W w4.heap.size (.slice (some ⟨g, 0, none⟩) O.length O.length) O) := ⟨P7.out.1.below hW, P7.out.2.1.below hW, P7.out.2.2.below hW⟩
        have HB8 := Lib.hid (HB7.out.trans (hW.mono HB7.out.size))
        clear hW
        have d1 : W.cell? ⟨pe, 1, none⟩ = some (.int .i64 x.ca) := hblk HZ8.out 1
        have d2 : W.cell? ⟨pe, 2, none⟩ = some (.int .i64 x.dr) := hblk HZ8.out 2
        rw [KD.out.1] at d1; rw [KD.out.2] at d2
        have hi128 : i < 128 := by have := HI.out; have := H12.out.1; omega
        obtain ⟨e0, e1⟩ := P8.out.1.cell i hi128
        obtain ⟨V, hV⟩ : ∃ V, V = cnC (O.take k) i := ⟨_, rfl⟩
        rw [← hV] at e0
        have hVb : 0 ≤ V ∧ V ≤ 180 := by have h1 := cnC_le (O.take k) i; have h2 : (O.take k).length ≤ O.length := by simp; omega
                                         rw [hV]; omega
        obtain ⟨hV0, hV1⟩ := hVb
        have HV := Lib.hid hV
        have i128 : (i : Int) < 128 := by omega
        have HI8 := Lib.hid hi128
        clear hV hi128
        go_wp2_with fail
        have hkp := setCell_keeps W pc i (.int .i64 (V + 1))
        have Q : Hid (Cnt (W.setCell ⟨pc, i, none⟩ (.int .i64 (V + 1))) pc (cnC (O.take (k + 1))) ∧ Cnt (W.setCell ⟨pc, i, none⟩ (.int .i64 (V + 1))) pd (cnD (O.take (k + 1))) ∧ ERow (W.setCell ⟨pc, i, none⟩ (.int .i64 (V + 1))) w4.heap.size (.slice (some ⟨g, 0, none⟩) O.length O.length) O) := by
          have et : O.take (k + 1) = O.take k ++ [x] := by rw [List.take_add_one, HX.out]; rfl
          rw [et]
          refine ⟨P8.out.1.set i HI8.out _ fun j hj => ?_, (P8.out.2.1.keep (hkp.block pd P8.out.2.1.lt HPN.out.2.1)).congr fun j hj => ?_, P8.out.2.2.keep hkp HPW.out.1⟩
          · rw [cnC_snoc, KD.out.1]
            by_cases hij : i = j
            · subst hij; rw [if_pos rfl, if_pos rfl, HV.out]
            · rw [if_neg (by omega), if_neg hij, Int.add_zero]
          · rw [cnD_snoc, KD.out.2, if_neg (by omega), Int.add_zero]
        have HB9 := Lib.hid (keeps_below hkp HB8.out HB8.out.size (fun j hj => by have := HPN.out; omega))
        clear hkp e0 e1 d1 d2
        generalize W.setCell ⟨pc, i, none⟩ (.int .i64 (V + 1)) = w9 at *
        go_roundw
        case rel => exact ⟨k + 1, HLT.out, by go_num, Q.out, HB9.out⟩
        case measure => have := HLT.out; simp [intOf]; omega
      · have hb8 := HR.out.below HB7.out
        obtain ⟨b, off, x9, hca, hx9, hwf, g19, g1, g2, g3, g4, g5, g6⟩ := hb8.ds.at i hi
        clear g1 g2 g3 g4 g5 g6 hwf hb8
        have hxx : x.st = x9.st := by rw [h3]; exact congrArg HD.st (List.getElem?_eq_some_iff.1 hx9).2
        rw [h1] at d1; rw [h2] at d2; rw [hxx] at d0
        rw [hca] at c1
        have b1 : decide ((0 : Int) ≤ (i : Int)) = true := decide_eq_true (by omega)
        have b1n : decide ((i : Int) < 0) = false := decide_eq_false (by omega)
        have b2 : (i : Int) < h.ds.length := by omega
        have HI := Lib.hid hi
        clear h1 h2 h3 hxx hx9 hi
        generalize x9.st = xs at *
        have x1 := fun st : ExtW w7 => st.cell c0
        have x2 := fun st : ExtW w7 => st.cell c1
        have x3 := fun st : ExtW w7 => st.cell d0
        have x4 := fun st : ExtW w7 => st.cell d1
        have x5 := fun st : ExtW w7 => st.cell d2
        have x6 := fun st : ExtW w7 => st.cell g19
        clear c0 c1 d0 d1 d2 g19
        go_upto_region 11 with (fail)
        refine wp_region_ext (by kernel_rfl) (by kernel_rfl) ?_
        repeat (go_big_quiet_step (fail))
        refine wpQuiet_nil ?_
        rintro W ⟨⟨W2, hW⟩, rfl⟩
        clear x1 x2 x3 x4 x5 x6
        have HZ8 := Lib.hid ((hW.block _ (Array.getElem?_eq_some_iff.1 HZ7.out).1).trans HZ7.out)
        have P8 : Hid (Cnt W pc (cnC (O.take k)) ∧ Cnt W pd (cnD (O.take k)) ∧ ERow W w4.heap.size (.slice (some ⟨g, 0, none⟩) O.length O.length) O) := ⟨P7.out.1.below hW, P7.out.2.1.below hW, P7.out.2.2.below hW⟩
        have HB8 := Lib.hid (HB7.out.trans (hW.mono HB7.out.size))
        clear hW
        have d1 : W.cell? ⟨pe, 1, none⟩ = some (.int .i64 x.ca) := hblk HZ8.out 1
        have d2 : W.cell? ⟨pe, 2, none⟩ = some (.int .i64 x.dr) := hblk HZ8.out 2
        rw [KD.out.1] at d1; rw [KD.out.2] at d2
        have hi128 : i < 128 := by have := HI.out; have := H12.out.2; omega
        obtain ⟨e0, e1⟩ := P8.out.2.1.cell i hi128
        obtain ⟨V, hV⟩ : ∃ V, V = cnD (O.take k) i := ⟨_, rfl⟩
        rw [← hV] at e0
        have hVb : 0 ≤ V ∧ V ≤ 180 := by have h1 := cnD_le (O.take k) i; have h2 : (O.take k).length ≤ O.length := by simp; omega
                                         rw [hV]; omega
        obtain ⟨hV0, hV1⟩ := hVb
        have HV := Lib.hid hV
        have i128 : (i : Int) < 128 := by omega
        have HI8 := Lib.hid hi128
        clear hV hi128
        go_wp2_with fail
        have hkp := setCell_keeps W pd i (.int .i64 (V + 1))
        have Q : Hid (Cnt (W.setCell ⟨pd, i, none⟩ (.int .i64 (V + 1))) pc (cnC (O.take (k + 1))) ∧ Cnt (W.setCell ⟨pd, i, none⟩ (.int .i64 (V + 1))) pd (cnD (O.take (k + 1))) ∧ ERow (W.setCell ⟨pd, i, none⟩ (.int .i64 (V + 1))) w4.heap.size (.slice (some ⟨g, 0, none⟩) O.length O.length) O) := by
          have et : O.take (k + 1) = O.take k ++ [x] := by rw [List.take_add_one, HX.out]; rfl
          rw [et]
          refine ⟨(P8.out.1.keep (hkp.block pc P8.out.1.lt HPN.out.1)).congr fun j hj => ?_, P8.out.2.1.set i HI8.out _ fun j hj => ?_, P8.out.2.2.keep hkp HPW.out.2⟩
          · rw [cnC_snoc, KD.out.1, if_neg (by omega), Int.add_zero]
          · rw [cnD_snoc, KD.out.2]
            by_cases hij : i = j
            · subst hij; rw [if_pos rfl, if_pos rfl, HV.out]
            · rw [if_neg (by omega), if_neg hij, Int.add_zero]
        have HB9 := Lib.hid (keeps_below hkp HB8.out HB8.out.size (fun j hj => by have := HPN.out; omega))
        clear hkp e0 e1 d1 d2
        generalize W.setCell ⟨pd, i, none⟩ (.int .i64 (V + 1)) = w9 at *
        go_roundw
        case rel => exact ⟨k + 1, HLT.out, by go_num, Q.out, HB9.out⟩
        case measure => have := HLT.out; simp [intOf]; omega
    · obtain rfl : k = O.length := by omega
      rw [List.take_length] at P
      have hcn : ∀ j : Nat, (j < h.cs.length → cnC O j = 1) ∧ (j < h.ds.length → cnD O j = 1) := fun j => by
        have := ord_cn HO.out j
        simpa [HC.pts, HD.sts] using this
      have HCN := Lib.hid hcn
      have HWO := Lib.hid (Below.refl wr.heap.size wr)
      clear hk hlt hbw hcn
      obtain ⟨wo, hwo⟩ : ∃ wo : World, wo = wr := ⟨_, rfl⟩
      rw [← hwo] at P HBW ⊢
      clear hwo HWO
      go_wp2_with fail
      go_loopw [8] (fun i wr => ∃ k : Nat, k ≤ 120 ∧ i = .int .i64 k ∧ wr = wo) (fun i _ => 120 - (intOf i).toNat)
      case atStart => exact ⟨0, by omega, rfl, rfl⟩
      case round =>
        obtain ⟨j, hj, rfl, rfl⟩ := hrel
        have zq := (HBW.out.block _ (Array.getElem?_eq_some_iff.1 HZ.out).1).trans HZ.out
        have c0 : wr.cell? ⟨q, 0, none⟩ = some (.slice h.ca h.cs.length h.cc) := hblk zq 0
        have c1 : wr.cell? ⟨q, 1, none⟩ = some (.slice h.da h.ds.length h.dc) := hblk zq 1
        clear zq
        by_cases hlt : j < 120
        · have hlt' : (j : Int) < 120 := by omega
          have j128 : (j : Int) < 128 := by omega
          obtain ⟨e0, -⟩ := P.out.1.cell j (by omega)
          obtain ⟨f0, -⟩ := P.out.2.1.cell j (by omega)
          have HLT := Lib.hid hlt
          obtain ⟨k1, k2⟩ := HCN.out j
          by_cases t1 : j < h.cs.length
          · have t1' : (j : Int) < h.cs.length := by omega
            rw [k1 t1] at e0
            by_cases t2 : j < h.ds.length
            · have t2' : (j : Int) < h.ds.length := by omega
              rw [k2 t2] at f0
              clear t1 t2 k1 k2 hlt
              go_wp2
              go_roundw
              case rel => exact ⟨j + 1, HLT.out, by go_num, by first | trivial | rfl⟩
              case measure => have := HLT.out; simp [intOf]; omega
            · have t2' : ¬ (j : Int) < h.ds.length := by omega
              clear t1 t2 k1 k2 hlt f0
              go_wp2
              go_roundw
              case rel => exact ⟨j + 1, HLT.out, by go_num, by first | trivial | rfl⟩
              case measure => have := HLT.out; simp [intOf]; omega
          · have t1' : ¬ (j : Int) < h.cs.length := by omega
            by_cases t2 : j < h.ds.length
            · have t2' : (j : Int) < h.ds.length := by omega
              rw [k2 t2] at f0
              clear t1 t2 k1 k2 hlt e0
              go_wp2
              go_roundw
              case rel => exact ⟨j + 1, HLT.out, by go_num, by first | trivial | rfl⟩
              case measure => have := HLT.out; simp [intOf]; omega
            · have t2' : ¬ (j : Int) < h.ds.length := by omega
              clear t1 t2 k1 k2 hlt f0 e0
              go_wp2
              go_roundw
              case rel => exact ⟨j + 1, HLT.out, by go_num, by first | trivial | rfl⟩
              case measure => have := HLT.out; simp [intOf]; omega
        · obtain rfl : j = 120 := by omega
          have hlen : (h.cs.length : Int) + h.ds.length = O.length := by have := HOL.out; omega
          have hb2 : ((O.length : Int) == (h.cs.length : Int) + h.ds.length) = true := beq_iff_eq.2 (by omega)
          have hl1 : (h.cs.length : Int) ≤ 120 := by have := HL.out.1; omega
          have hl2 : (h.ds.length : Int) ≤ 60 := by have := HL.out.2; omega
          clear hlt hj hlen
          go_wp2_with (go_at_call 9; refine (lives34 _).mono ?_; rintro e w30 ⟨rfl, b30⟩)
          go_ret
          have h1 := HB.out.trans (HBW.out.mono HB.out.size)
          exact ⟨rfl, h1.trans (b30.mono h1.size)⟩
set_option maxRecDepth 100000 in
theorem walkHistsOnce {H1 : Type} (w : World) (enc : TypeId × Value → H1) (base : Nat) (v : Value) (d : DataW H1) (p : List MemPlace) (k : DataW.Trod enc Try.prog w 0 (fun _ => true) true 25 v d p) (o : Value.okWide Try.prog w .any base 25 v) :
    Calls Try.prog 3 #[v] w fun e w' => e = .returned (.bool true) ∧ Below w.heap.size w w' := by
  obtain ⟨h, rfl, hr⟩ := hst_open k o
  exact once_any h w hr
end Go.Proofs.Ytmafjaallfngeaa
