/-
  HistsReal: the walk.
-/
import Derived.Test.YtmafjaallfngeaaHistRealLaw
import Derived.Deep.DeepCutAuto
import Derived.Deep.CutBlock
namespace Go.Proofs.Ytmafjaallfngeaa
open Go.RowKit Go.Maps Go.Sort
set_option linter.unusedVariables false

set_option maxRecDepth 100000 in
set_option maxHeartbeats 8000000 in
theorem real_any (h : Hst) (w : World) (hr : HstRd w h) :
    Calls Try.prog 4 #[.agg #[.slice h.ca h.cs.length h.cc, .slice h.da h.ds.length h.dc]] w fun e w' => e = .returned (.bool true) ∧ Below w.heap.size w w' := by
  have hB := hballoc w (.cells h.cells 25)
  have z := heap_alloc_new w (.cells h.cells 25)
  have HR := Lib.hid (hr.below hB); have HB := Lib.hid hB; have HZ := Lib.hid z
  clear hr hB z
  go_enter Try.func4, Try.ntmps4
  go_upto_region 1 with (fail)
  change Code.wp _ _ _ _ (w.alloc (.cells h.cells 25))
  obtain ⟨w1, hw1⟩ : ∃ w1, w1 = w.alloc (.cells h.cells 25) := ⟨_, rfl⟩
  rw [← hw1] at HR HB HZ ⊢
  clear hw1
  obtain ⟨q, hq⟩ : ∃ q, q = w.heap.size := ⟨_, rfl⟩
  rw [← hq] at HZ ⊢
  have c0 : w1.cell? ⟨q, 0, none⟩ = some (.slice h.ca h.cs.length h.cc) := hblk HZ.out 0
  have c1 : w1.cell? ⟨q, 1, none⟩ = some (.slice h.da h.ds.length h.dc) := hblk HZ.out 1
  have hgr := great34_any h w1 HR.out
  clear hq
  have hq1 := HZ.out
  go_upto_if 16 with (first
    | (go_at_call 8; refine hgr.mono ?_; rintro e w2 ⟨g, rfl, b2, hg⟩; have HWL := Lib.hid (fun hf : g = false => well_any h w2 (HR.out.below b2) (hg hf).1 (hg hf).2); have B2 := Lib.hid b2; have HG := Lib.hid hg; have c0 : w2.cell? ⟨q, 0, none⟩ = some (.slice h.ca h.cs.length h.cc) := hblk ((b2.block _ (Array.getElem?_eq_some_iff.1 hq1).1).trans hq1) 0; have c1 : w2.cell? ⟨q, 1, none⟩ = some (.slice h.da h.ds.length h.dc) := hblk ((b2.block _ (Array.getElem?_eq_some_iff.1 hq1).1).trans hq1) 1; clear b2 hg hgr hq1; cases g)
    | (go_at_call 11; (first | refine (HWL.out trivial).mono ?_ | refine (HWL.out rfl).mono ?_ | refine HWL.out.mono ?_); rintro e w3 ⟨g, rfl, b3, hg⟩; have B3 := Lib.hid (B2.out.trans (b3.mono B2.out.size)); have HW := Lib.hid hg; clear b3 hg; cases g))
  · go_wp2_with (go_at_call 9; refine (lives34 _).mono ?_; rintro e w4 ⟨rfl, b4⟩)
    go_ret
    have h1 := HB.out.trans (B3.out.mono HB.out.size)
    exact ⟨rfl, h1.trans (b4.mono h1.size)⟩
  rotate_left
  · go_wp2_with (go_at_call 9; refine (lives34 _).mono ?_; rintro e w4 ⟨rfl, b4⟩)
    go_ret
    have h1 := HB.out.trans (B2.out.mono HB.out.size)
    exact ⟨rfl, h1.trans (b4.mono h1.size)⟩
  have H12 : Hid (h.cs.length ≤ 120 ∧ h.ds.length ≤ 60) := HG.out trivial
  have HWEL : Hid (CwOk (cws h.cs)) := (HW.out.1 trivial).1
  clear HG HWL HW c0 c1 B2
  go_upto_region 4 with (fail)
  change Code.wp _ _ _ _ (w3.alloc (.cells (Array.replicate 128 (.int .i64 0)) 28))
  obtain ⟨pa, hpa⟩ : ∃ pa, pa = w3.heap.size := ⟨_, rfl⟩
  have b4 := hballoc w3 (.cells (Array.replicate 128 (.int .i64 0)) 28)
  have z4 := heap_alloc_new w3 (.cells (Array.replicate 128 (.int .i64 0)) 28)
  generalize w3.alloc (.cells (Array.replicate 128 (.int .i64 0)) 28) = w4 at *
  rw [← hpa] at z4 ⊢
  have HC4 := Lib.hid (Cnt.zero z4)
  have HPN := Lib.hid (show w1.heap.size ≤ pa by rw [hpa]; exact B3.out.size)
  have HB4 := Lib.hid (B3.out.trans (b4.mono B3.out.size))
  clear b4 z4 hpa B3
  have zq := (HB4.out.block _ (Array.getElem?_eq_some_iff.1 HZ.out).1).trans HZ.out
  have c0 : w4.cell? ⟨q, 0, none⟩ = some (.slice h.ca h.cs.length h.cc) := hblk zq 0
  have c1 : w4.cell? ⟨q, 1, none⟩ = some (.slice h.da h.ds.length h.dc) := hblk zq 1
  have hord := order_any h w4 (HR.out.below HB4.out) H12.out.1 H12.out.2
  have HPW := Lib.hid HC4.out.lt
  clear zq
  go_upto_region 5 with (go_at_call 10; refine hord.mono ?_; rintro e w5 ⟨v, O, rfl, he, ho, hb5⟩; obtain ⟨oa, rfl, -⟩ := he.sl; have HE := Lib.hid he; have HO := Lib.hid ho; have HC5 := Lib.hid (HC4.out.below hb5); have HB5 := Lib.hid (HB4.out.trans (hb5.mono HB4.out.size)); clear he ho hb5 hord c0 c1)
  have hol := HO.out.len
  simp only [HC.pts, HD.sts, List.length_map] at hol
  have hl1 := H12.out.1
  have hl2 := H12.out.2
  have HOL := Lib.hid hol
  have ho180 : (O.length : Int) ≤ 180 := by omega
  clear hol HC4 hl1 hl2
  go_wp2_with fail
  go_loopw [5] (fun i wr => ∃ (k : Nat) (f : Int → Int), k ≤ O.length ∧ i = .int .i64 k ∧ Hid (Cnt wr pa f ∧ AtF O k f ∧ ERow wr w4.heap.size (.slice oa O.length O.length) O) ∧ Below w1.heap.size w1 wr) (fun i _ => O.length - (intOf i).toNat)
  case atStart => exact ⟨0, _, by omega, rfl, ⟨HC5.out, AtF.zero O, HE.out⟩, HB5.out⟩
  case round =>
    clear HC5 HE HB5
    obtain ⟨k, f, hk, rfl, P, hbw⟩ := hrel
    have HBW := Lib.hid hbw
    by_cases hlt : k < O.length
    · have hlt' : (k : Int) < O.length := by omega
      obtain ⟨g, x, rfl, hx, e0, e1, e2⟩ := P.out.2.2.at k hlt
      have HX := Lib.hid hx; have HLT := Lib.hid hlt
      have hkind : (∃ i, i < h.cs.length ∧ x.ca = ((i : Nat) : Int)) ∨ x.ca = -1 := by
        rcases HO.out.mem (List.mem_of_getElem? hx) with ⟨i, hi, rfl⟩ | ⟨i, hi, rfl⟩
        · exact .inl ⟨i, by simpa [HC.pts] using hi, rfl⟩
        · exact .inr rfl
      have zq := (HBW.out.block _ (Array.getElem?_eq_some_iff.1 HZ.out).1).trans HZ.out
      have c0 : wr.cell? ⟨q, 0, none⟩ = some (.slice h.ca h.cs.length h.cc) := hblk zq 0
      clear hx hlt hk hbw zq e0 e2
      rcases hkind with ⟨i, hi, hc⟩ | hc
      · rw [hc] at e1
        have HI := Lib.hid hi; have HC := Lib.hid hc
        have b2 : decide ((h.cs.length : Int) ≤ (i : Int)) = false := decide_eq_false (by omega)
        have b2n : decide (h.cs.length ≤ i) = false := decide_eq_false (by omega)
        have b2m : decide ((i : Int) ≥ (h.cs.length : Int)) = false := decide_eq_false (by omega)
        clear hi hc
        go_upto_region 8 with (fail)
        have x1 := fun st : ExtW wr => st.cell c0
        have x2 := fun st : ExtW wr => st.cell e1
        refine wp_region_ext (by kernel_rfl) (by kernel_rfl) ?_
        repeat (go_big_quiet_step (fail))
        refine wpQuiet_nil ?_
        rintro W ⟨⟨W2, hW⟩, rfl⟩
        have e1 := (hW.cell (World.block_lt_of_cell? _ _ e1)).trans e1
        have P8 : Hid (Cnt W pa f ∧ AtF O k f ∧ ERow W w4.heap.size (.slice (some ⟨g, 0, none⟩) O.length O.length) O) := ⟨P.out.1.below hW, P.out.2.1, P.out.2.2.below hW⟩
        have HB8 := Lib.hid (HBW.out.trans (hW.mono HBW.out.size))
        have hi128 : i < 128 := by have := HI.out; have := H12.out.1; omega
        obtain ⟨a0, a1⟩ := P8.out.1.cell i hi128
        have i128 : (i : Int) < 128 := by omega
        have HI8 := Lib.hid hi128
        clear x1 x2 hW c0 P hi128
        go_wp2_with fail
        have hkp := setCell_keeps W pa i (.int .i64 ((k : Int) + 1))
        have Q : Hid (Cnt (W.setCell ⟨pa, i, none⟩ (.int .i64 ((k : Int) + 1))) pa (fun j => if (i : Int) = j then (k : Int) + 1 else f j) ∧ AtF O (k + 1) (fun j => if (i : Int) = j then (k : Int) + 1 else f j) ∧ ERow (W.setCell ⟨pa, i, none⟩ (.int .i64 ((k : Int) + 1))) w4.heap.size (.slice (some ⟨g, 0, none⟩) O.length O.length) O) := by
          refine ⟨P8.out.1.set i HI8.out _ fun j hj => ?_, P8.out.2.1.call HX.out HC.out, P8.out.2.2.keep hkp HPW.out⟩
          by_cases hij : i = j
          · subst hij; rw [if_pos rfl, if_pos rfl]
          · rw [if_neg (by omega), if_neg hij]
        have HB9 := Lib.hid (keeps_below hkp HB8.out HB8.out.size (fun j hj => by have := HPN.out; omega))
        clear hkp e1 a0 a1
        generalize W.setCell ⟨pa, i, none⟩ (.int .i64 ((k : Int) + 1)) = w9 at *
        go_roundw
        case rel => exact ⟨k + 1, _, HLT.out, by go_num, Q.out, HB9.out⟩
        case measure => have := HLT.out; simp [intOf]; omega
      · rw [hc] at e1
        have HC := Lib.hid hc
        have b3 : decide ((h.cs.length : Int) ≤ -1) = false := decide_eq_false (by omega)
        clear hc
        go_upto_region 8 with (fail)
        have x1 := fun st : ExtW wr => st.cell c0
        have x2 := fun st : ExtW wr => st.cell e1
        refine wp_region_ext (by kernel_rfl) (by kernel_rfl) ?_
        repeat (go_big_quiet_step (fail))
        refine wpQuiet_nil ?_
        rintro W ⟨⟨W2, hW⟩, rfl⟩
        have e1 := (hW.cell (World.block_lt_of_cell? _ _ e1)).trans e1
        have P8 : Hid (Cnt W pa f ∧ AtF O (k + 1) f ∧ ERow W w4.heap.size (.slice (some ⟨g, 0, none⟩) O.length O.length) O) := ⟨P.out.1.below hW, P.out.2.1.drop HX.out HC.out, P.out.2.2.below hW⟩
        have HB8 := Lib.hid (HBW.out.trans (hW.mono HBW.out.size))
        clear x1 x2 hW c0 P
        go_wp2_with fail
        go_roundw
        case rel => exact ⟨k + 1, f, HLT.out, by go_num, P8.out, HB8.out⟩
        case measure => have := HLT.out; simp [intOf]; omega
    · obtain rfl : k = O.length := by omega
      clear hk hlt hbw
      obtain ⟨wo, hwo⟩ : ∃ wo : World, wo = wr := ⟨_, rfl⟩
      rw [← hwo] at P HBW ⊢
      clear hwo
      have hl1 : (h.cs.length : Int) ≤ 120 := by have := H12.out.1; omega
      go_wp2_with fail
      go_loopw [6, 7, 8, 9] (fun i _ _ _ wr => ∃ a : Nat, a ≤ h.cs.length ∧ i = .int .i64 a ∧ Below wo.heap.size wo wr) (fun i _ _ _ _ => h.cs.length - (intOf i).toNat)
      case atStart => exact ⟨0, by omega, rfl, Below.refl _ _⟩
      case round =>
        obtain ⟨a, ha, rfl, hba⟩ := hrel
        have HBA := Lib.hid hba
        have HBB := HBW.out.trans (hba.mono HBW.out.size)
        have zq := (HBB.block _ (Array.getElem?_eq_some_iff.1 HZ.out).1).trans HZ.out
        have c0 : wr.cell? ⟨q, 0, none⟩ = some (.slice h.ca h.cs.length h.cc) := hblk zq 0
        clear zq HBB
        by_cases hla : a < h.cs.length
        · have hla' : (a : Int) < h.cs.length := by omega
          have HLA := Lib.hid hla
          clear hla ha hba
          go_wp2_with fail
          clear c0
          go_loopw [7, 8, 9] (fun i _ _ wr => ∃ b : Nat, b ≤ h.cs.length ∧ i = .int .i64 b ∧ Below wo.heap.size wo wr) (fun i _ _ _ => h.cs.length - (intOf i).toNat)
          case atStart => exact ⟨0, by omega, rfl, HBA.out⟩
          case round =>
            clear HBA
            obtain ⟨b, hb, rfl, hbb⟩ := hrel
            have HBA := Lib.hid hbb
            have HBB := Lib.hid (HBW.out.trans (hbb.mono HBW.out.size))
            have zq := (HBB.out.block _ (Array.getElem?_eq_some_iff.1 HZ.out).1).trans HZ.out
            have c0 : wr.cell? ⟨q, 0, none⟩ = some (.slice h.ca h.cs.length h.cc) := hblk zq 0
            by_cases hlb : b < h.cs.length
            · have hlb' : (b : Int) < h.cs.length := by omega
              have HLB := Lib.hid hlb
              obtain ⟨b0, off, x, cl, xa, xx, xl, xs, x1, xd⟩ := (HR.out.below HBB.out).cs.whole a HLA.out
              have xq0 : cl.toArray[0]? = some (.int .i64 (h.cs[a]'HLA.out).th) := by rw [xl, ← (List.getElem?_eq_some_iff.1 xx).2]; rfl
              have xq8 : cl.toArray[8]? = some (.int .i64 (h.cs[a]'HLA.out).fr) := by rw [xl, ← (List.getElem?_eq_some_iff.1 xx).2]; rfl
              have xq9 : cl.toArray[9]? = some (.int .i64 (h.cs[a]'HLA.out).to) := by rw [xl, ← (List.getElem?_eq_some_iff.1 xx).2]; rfl
              have xi : (Try.prog.info? 44).map (·.size) = some cl.length := by rw [xs]; kernel_rfl
              have xQ := Lib.hid (And.intro xq0 (And.intro xq8 xq9))
              have xS := Lib.hid xs; have xI := Lib.hid xi; have xO := Lib.hid x1; have xD := Lib.hid xd
              clear xq0 xq8 xq9 xs xi x1 xd xl xx
              rw [xa] at c0
              have XA := Lib.hid xa
              clear xa
              clear hlb hb hbb
              go_upto_region 19 with (first
                | (refine wpList_load_mid rfl 44 (.tmp 66) rfl b0 (off + a * 20) rfl cl _ xD.out Try.underlying44 rfl xI.out ?_)
                | (refine wpList_store_new rfl 44 (.tmp 8) (.tmp 67) rfl wr _ cl.toArray rfl rfl xI.out (by simp [xS.out]) xO.out ?_))
              go_frame
              have hb8 := hballoc wr (.cells cl.toArray 44)
              have hz8 := heap_alloc_new wr (.cells cl.toArray 44)
              generalize hp8 : wr.heap.size = p8 at hz8 ⊢
              generalize wr.alloc (.cells cl.toArray 44) = w8 at *
              have HB8 := Lib.hid (HBA.out.trans (hb8.mono HBA.out.size))
              have HBB8 := Lib.hid (HBB.out.trans (hb8.mono HBB.out.size))
              have HZ8 := Lib.hid hz8
              have HP8 := Lib.hid hp8
              clear hb8 hz8 c0 hp8
              have zq := (HBB8.out.block _ (Array.getElem?_eq_some_iff.1 HZ.out).1).trans HZ.out
              have c0 : w8.cell? ⟨q, 0, none⟩ = some (.slice h.ca h.cs.length h.cc) := hblk zq 0
              clear zq
              obtain ⟨b1, off1, y, cm, ya, yx, yl, ys, y1, yd⟩ := (HR.out.below HBB8.out).cs.whole b HLB.out
              have yq0 : cm.toArray[0]? = some (.int .i64 (h.cs[b]'HLB.out).th) := by rw [yl, ← (List.getElem?_eq_some_iff.1 yx).2]; rfl
              have yq8 : cm.toArray[8]? = some (.int .i64 (h.cs[b]'HLB.out).fr) := by rw [yl, ← (List.getElem?_eq_some_iff.1 yx).2]; rfl
              have yq9 : cm.toArray[9]? = some (.int .i64 (h.cs[b]'HLB.out).to) := by rw [yl, ← (List.getElem?_eq_some_iff.1 yx).2]; rfl
              have yi : (Try.prog.info? 44).map (·.size) = some cm.length := by rw [ys]; kernel_rfl
              have yQ := Lib.hid (And.intro yq0 (And.intro yq8 yq9))
              have yS := Lib.hid ys; have yI := Lib.hid yi; have yO := Lib.hid y1; have yD := Lib.hid yd
              clear yq0 yq8 yq9 ys yi y1 yd yl yx
              rw [ya] at c0
              have YA := Lib.hid ya
              clear ya
              go_upto_region 20 with (first
                | (refine wpList_load_mid rfl 44 (.tmp 71) rfl b1 (off1 + b * 20) rfl cm _ yD.out Try.underlying44 rfl yI.out ?_)
                | (refine wpList_store_new rfl 44 (.tmp 9) (.tmp 72) rfl w8 _ cm.toArray rfl rfl yI.out (by simp [yS.out]) yO.out ?_))
              go_frame
              have hb9 := hballoc w8 (.cells cm.toArray 44)
              have hz9 := heap_alloc_new w8 (.cells cm.toArray 44)
              generalize w8.heap.size = p9 at hz9 ⊢
              generalize w8.alloc (.cells cm.toArray 44) = w9 at *
              have hz8 := (hb9.block _ (Array.getElem?_eq_some_iff.1 HZ8.out).1).trans HZ8.out
              have x0 : w9.cell? ⟨p8, 0, none⟩ = some (.int .i64 (h.cs[a]'HLA.out).th) := (hblk hz8 0).trans xQ.out.1
              have x3 : w9.cell? ⟨p8, 9, none⟩ = some (.int .i64 (h.cs[a]'HLA.out).to) := (hblk hz8 9).trans xQ.out.2.2
              have y0 : w9.cell? ⟨p9, 0, none⟩ = some (.int .i64 (h.cs[b]'HLB.out).th) := (hblk hz9 0).trans yQ.out.1
              have y2 : w9.cell? ⟨p9, 8, none⟩ = some (.int .i64 (h.cs[b]'HLB.out).fr) := (hblk hz9 8).trans yQ.out.2.1
              have HB9 := Lib.hid (HB8.out.trans (hb9.mono HB8.out.size))
              have a128 : a < 128 := by have := HLA.out; have := H12.out.1; omega
              have b128 : b < 128 := by have := HLB.out; have := H12.out.1; omega
              have C9 := P.out.1.below (HB9.out)
              obtain ⟨fa, -⟩ := C9.cell a a128
              obtain ⟨fb', -⟩ := C9.cell b b128
              have hpa := real_pos HO.out P.out.2.1 HLA.out a128
              have hlt1 : (h.cs[a]'HLA.out).to ≤ (h.cs[b]'HLB.out).fr → f a < f b := fun hh => real_lt HO.out P.out.2.1 HWEL.out HLA.out HLB.out a128 b128 (real_to HWEL.out HLA.out HLB.out hh)
              have hlt2 : a < b → (h.cs[a]'HLA.out).th = (h.cs[b]'HLB.out).th → f a < f b := fun h1 h2 => real_lt HO.out P.out.2.1 HWEL.out HLA.out HLB.out a128 b128 (real_th HWEL.out HLA.out HLB.out h1 h2)
              clear hb9 hz9 hz8 c0 C9
              generalize (h.cs[a]'HLA.out).to = xt at *
              generalize (h.cs[a]'HLA.out).th = xh at *
              generalize (h.cs[b]'HLB.out).fr = yf at *
              generalize (h.cs[b]'HLB.out).th = yh at *
              obtain ⟨va, hva⟩ : ∃ va, va = f a := ⟨_, rfl⟩
              obtain ⟨vb, hvb⟩ : ∃ vb, vb = f b := ⟨_, rfl⟩
              rw [← hva] at fa hpa hlt1 hlt2
              rw [← hvb] at fb' hlt1 hlt2
              have ai : (a : Int) < 128 := by omega
              have bi : (b : Int) < 128 := by omega
              have AB := Lib.hid (And.intro a128 b128)
              have az : (va == 0) = false := beq_eq_false_iff_ne.2 (by omega)
              clear hva hvb a128 b128
              by_cases hab : a = b
              · subst hab
                clear hlt1 hlt2 x0 x3 y0 y2 fa fb'
                go_wp2
                go_roundw
                case rel => first | exact ⟨a + 1, HLB.out, by go_num, HB9.out⟩ | ((repeat apply Exists.intro); exact ⟨⟨a + 1, HLB.out, by go_num, HB9.out⟩, rfl⟩)
                case measure => have := HLB.out; simp [intOf]; omega
              · have hne : ((a : Int) == (b : Int)) = false := beq_eq_false_iff_ne.2 (by omega)
                go_upto_region 21 with (fail)
                have z1 := fun st : ExtW w9 => st.cell x0
                have z2 := fun st : ExtW w9 => st.cell x3
                have z3 := fun st : ExtW w9 => st.cell y0
                have z4 := fun st : ExtW w9 => st.cell y2
                have z5 := fun st : ExtW w9 => st.cell fa
                have z6 := fun st : ExtW w9 => st.cell fb'
                clear x0 x3 y0 y2 fa fb'
                go_cut [107] (fun v107 wx => v107 = .bool false ∧ Below w9.heap.size w9 wx)
                case first =>
                  by_cases t1 : xt ≤ yf
                  · have g1 : decide (vb ≤ va) = false := decide_eq_false (by have := hlt1 t1; omega)
                    have d1 : decide (xt ≤ yf) = true := decide_eq_true t1
                    clear hlt1 hlt2 t1
                    refine wp_region_ext (by kernel_rfl) (by kernel_rfl) ?_
                    repeat (go_big_quiet_step (fail))
                    refine wpQuiet_nil ?_
                    rintro W ⟨⟨W2, hW⟩, rfl⟩
                    have HW := Lib.hid hW
                    clear hW z1 z2 z3 z4 z5 z6
                    go_wp2
                    all_goals go_meet
                    all_goals exact ⟨rfl, HW.out⟩
                  · have d1 : decide (xt ≤ yf) = false := decide_eq_false t1
                    by_cases t2 : a < b
                    · have d2 : decide ((a : Int) < (b : Int)) = true := decide_eq_true (by omega)
                      have d2n : decide (a < b) = true := decide_eq_true t2
                      by_cases t3 : xh = yh
                      · have g1 : decide (vb ≤ va) = false := decide_eq_false (by have := hlt2 t2 t3; omega)
                        subst t3
                        clear hlt1 hlt2 t1 t2
                        refine wp_region_ext (by kernel_rfl) (by kernel_rfl) ?_
                        repeat (go_big_quiet_step (fail))
                        refine wpQuiet_nil ?_
                        rintro W ⟨⟨W2, hW⟩, rfl⟩
                        have HW := Lib.hid hW
                        clear hW z1 z2 z3 z4 z5 z6
                        go_wp2
                        all_goals go_meet
                        all_goals exact ⟨rfl, HW.out⟩
                      · have d3 : (xh == yh) = false := beq_eq_false_iff_ne.2 t3
                        clear hlt1 hlt2 t1 t2 t3
                        refine wp_region_ext (by kernel_rfl) (by kernel_rfl) ?_
                        repeat (go_big_quiet_step (fail))
                        refine wpQuiet_nil ?_
                        rintro W ⟨⟨W2, hW⟩, rfl⟩
                        have HW := Lib.hid hW
                        clear hW z1 z2 z3 z4 z5 z6
                        go_wp2
                        all_goals go_meet
                        all_goals exact ⟨rfl, HW.out⟩
                    · have d2 : decide ((a : Int) < (b : Int)) = false := decide_eq_false (by omega)
                      have d2n : decide (a < b) = false := decide_eq_false t2
                      clear hlt1 hlt2 t1 t2
                      refine wp_region_ext (by kernel_rfl) (by kernel_rfl) ?_
                      repeat (go_big_quiet_step (fail))
                      refine wpQuiet_nil ?_
                      rintro W ⟨⟨W2, hW⟩, rfl⟩
                      have HW := Lib.hid hW
                      clear hW z1 z2 z3 z4 z5 z6
                      go_wp2
                      all_goals go_meet
                      all_goals exact ⟨rfl, HW.out⟩
                case rest =>
                obtain ⟨rfl, hb10⟩ := hcut
                have HB10 := Lib.hid (HB9.out.trans (hb10.mono HB9.out.size))
                clear hb10 z1 z2 z3 z4 z5 z6 hlt1 hlt2
                go_wp2
                go_roundw
                case rel => first | exact ⟨b + 1, HLB.out, by go_num, HB10.out⟩ | ((repeat apply Exists.intro); exact ⟨⟨b + 1, HLB.out, by go_num, HB10.out⟩, rfl⟩)
                case measure => have := HLB.out; simp [intOf]; omega
            · obtain rfl : b = h.cs.length := by omega
              clear hlb hb hbb
              go_wp2
              go_roundw
              case rel => exact ⟨a + 1, HLA.out, by go_num, HBA.out⟩
              case measure => have := HLA.out; simp [intOf]; omega
        · obtain rfl : a = h.cs.length := by omega
          clear hla ha hba
          go_wp2_with (go_at_call 9; refine (lives34 _).mono ?_; rintro e w30 ⟨rfl, b30⟩)
          go_ret
          have h0 := HBW.out.trans (HBA.out.mono HBW.out.size)
          have h1 := HB.out.trans (h0.mono HB.out.size)
          exact ⟨rfl, h1.trans (b30.mono h1.size)⟩
set_option maxRecDepth 100000 in
theorem walkHistsReal {H1 : Type} (w : World) (enc : TypeId × Value → H1) (base : Nat) (v : Value) (d : DataW H1) (p : List MemPlace) (k : DataW.Trod enc Try.prog w 0 (fun _ => true) true 25 v d p) (o : Value.okWide Try.prog w .any base 25 v) :
    Calls Try.prog 4 #[v] w fun e w' => e = .returned (.bool true) ∧ Below w.heap.size w w' := by
  obtain ⟨h, rfl, hr⟩ := hst_open k o
  exact real_any h w hr
end Go.Proofs.Ytmafjaallfngeaa
