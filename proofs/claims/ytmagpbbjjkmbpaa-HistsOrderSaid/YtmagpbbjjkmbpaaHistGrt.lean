/-
  nestboxlaw34.Great: is a history too great?
-/
import Derived.Test.YtmagpbbjjkmbpaaHistDo
import Derived.Deep.DeepCutAuto
import Derived.Deep.CutBlock
import Derived.Test.YtmagpbbjjkmbpaaLib
namespace Go.Proofs.Ytmagpbbjjkmbpaa
open Go.RowKit Go.Maps Go.Sort
set_option linter.unusedVariables false

def GrtPost (h : Hst) (w : World) (e : Ending) (w' : World) : Prop := ∃ g, e = .returned (.bool g) ∧ Below w.heap.size w w' ∧ (g = false → h.cs.length ≤ 120 ∧ h.ds.length ≤ 60)
set_option maxRecDepth 100000 in
set_option maxHeartbeats 4000000 in
theorem great34_any (h : Hst) (w : World) (hr : HstRd w h) :
    Calls Try.prog 6 #[.agg #[.slice h.ca h.cs.length h.cc, .slice h.da h.ds.length h.dc]] w (GrtPost h w) := by
  have hB := hballoc w (.cells h.cells 25)
  have z := heap_alloc_new w (.cells h.cells 25)
  have m1 : h.cs.length ≤ 9223372036854775807 := Nat.le_trans hr.cs.le (Nat.le_trans hr.cs.most (by unfold maxLen; decide))
  have m2 : h.ds.length ≤ 9223372036854775807 := Nat.le_trans hr.ds.le (Nat.le_trans hr.ds.most (by unfold maxLen; decide))
  have HR := Lib.hid (hr.below hB); have HB := Lib.hid hB; have HZ := Lib.hid z
  clear hr hB z
  go_enter Try.func6, Try.ntmps6
  go_upto_region 1 with (fail)
  change Code.wp _ _ _ _ (w.alloc (.cells h.cells 25))
  obtain ⟨w1, hw1⟩ : ∃ w1, w1 = w.alloc (.cells h.cells 25) := ⟨_, rfl⟩
  rw [← hw1] at HR HB HZ ⊢
  clear hw1
  go_upto_block 0 with (fail)
  go_cut [3] (fun v3 wx => ∃ y : Int, v3 = .int .i64 y ∧ Below w1.heap.size w1 wx)
  case first =>
    go_wp2_with fail
    go_loopw [3, 4, 5] (fun v3 i _ wr => ∃ (k : Nat) (y : Int), k ≤ 130 ∧ k ≤ h.cs.length ∧ i = .int .i64 k ∧ v3 = .int .i64 y ∧ Below w1.heap.size w1 wr) (fun _ i _ _ => 130 - (intOf i).toNat)
    case atStart => exact ⟨0, 0, by omega, by omega, rfl, rfl, Below.refl _ _⟩
    case round =>
      obtain ⟨k, y, hk1, hk, rfl, rfl, hbw⟩ := hrel
      have HBW := Lib.hid hbw
      have z := (hbw.block _ (Array.getElem?_eq_some_iff.1 HZ.out).1).trans HZ.out
      have c0 : wr.cell? ⟨w.heap.size, 0, none⟩ = some (.slice h.ca h.cs.length h.cc) := hblk z 0
      have c1 : wr.cell? ⟨w.heap.size, 1, none⟩ = some (.slice h.da h.ds.length h.dc) := hblk z 1
      clear z
      by_cases hlt : k < h.cs.length ∧ k < 130
      · have t1 : (k : Int) < h.cs.length := by omega
        have t2 : (k : Int) < 130 := by omega
        obtain ⟨b, off, x, cl, hca, hx, hcl, hsz, h1c, hld⟩ := (HR.out.cs.below hbw).whole k hlt.1
        have q2 : cl.toArray[2]? = some (.string x.ky) := by rw [hcl]; rfl
        have q3 : cl.toArray[3]? = some (.string x.vl) := by rw [hcl]; rfl
        have q12 : cl.toArray[12]? = some (.string x.ik) := by rw [hcl]; rfl
        have q13 : cl.toArray[13]? = some (.string x.iv) := by rw [hcl]; rfl
        have hi20 : (Try.prog.info? 57).map (·.size) = some cl.length := by rw [hsz]; kernel_rfl
        have QQ := Lib.hid (And.intro q2 (And.intro q3 (And.intro q12 q13)))
        have HX := Lib.hid hx; have HLT := Lib.hid hlt; have H1C := Lib.hid h1c; have HLD := Lib.hid hld; have HI20 := Lib.hid hi20; have HSZ := Lib.hid hsz
        rw [hca] at c0 ⊢
        have HCA := Lib.hid hca
        clear hx hbw hlt hk hk1 q2 q3 q12 q13 h1c hld hcl hsz hi20
        go_upto_region 6 with (first
          | (refine wpList_load_mid rfl 57 (.tmp 21) rfl b (off + k * 20) rfl cl _ HLD.out Try.underlying57 rfl HI20.out ?_)
          | (refine wpList_store_new rfl 57 (.tmp 5) (.tmp 22) rfl wr _ cl.toArray rfl rfl HI20.out (by simp [HSZ.out]) H1C.out ?_))
        go_frame
        have hb5 := hballoc wr (.cells cl.toArray 57)
        have hz5 := heap_alloc_new wr (.cells cl.toArray 57)
        clear c0 c1
        generalize wr.alloc (.cells cl.toArray 57) = w5 at *
        have c2 := (hblk hz5 2).trans QQ.out.1
        have c3 := (hblk hz5 3).trans QQ.out.2.1
        have c12 := (hblk hz5 12).trans QQ.out.2.2.1
        have c13 := (hblk hz5 13).trans QQ.out.2.2.2
        have HB5 := Lib.hid (HBW.out.trans (hb5.mono HBW.out.size))
        clear hb5 hz5
        generalize x.ky = s1 at *
        generalize x.vl = s2 at *
        generalize x.ik = s3 at *
        generalize x.iv = s4 at *
        go_wp2
        all_goals go_roundw
        all_goals (first
          | exact ⟨k + 1, _, by have := HLT.out; omega, by have := HLT.out; omega, by go_num, rfl, HB5.out⟩
          | (have := HLT.out; simp [intOf]; omega))
      · rcases (by omega : ¬ k < h.cs.length ∨ (k < h.cs.length ∧ ¬ k < 130)) with hn | ⟨hn1, hn2⟩
        · have t1 : ¬ (k : Int) < h.cs.length := by omega
          clear hlt hn
          go_wp2
          all_goals go_meet
          all_goals exact ⟨y, rfl, HBW.out⟩
        · have t1 : (k : Int) < h.cs.length := by omega
          have t2 : ¬ (k : Int) < 130 := by omega
          clear hlt hn1 hn2
          go_wp2
          all_goals go_meet
          all_goals exact ⟨y, rfl, HBW.out⟩
  case rest =>
  obtain ⟨y0, rfl, hbw0⟩ := hcut
  have HBW0 := Lib.hid hbw0
  clear hbw0
  go_upto_block 2 with (fail)
  go_cut [3] (fun v3 wx => ∃ y : Int, v3 = .int .i64 y ∧ Below w1.heap.size w1 wx)
  case first =>
    go_wp2_with fail
    go_loopw [3, 6] (fun v3 i wr => ∃ (k : Nat) (y : Int), k ≤ 130 ∧ k ≤ h.ds.length ∧ i = .int .i64 k ∧ v3 = .int .i64 y ∧ Below w1.heap.size w1 wr) (fun _ i _ => 130 - (intOf i).toNat)
    case atStart => exact ⟨0, y0, by omega, by omega, rfl, rfl, HBW0.out⟩
    case round =>
      obtain ⟨k, y, hk1, hk, rfl, rfl, hbw⟩ := hrel
      have HBW := Lib.hid hbw
      have z := (hbw.block _ (Array.getElem?_eq_some_iff.1 HZ.out).1).trans HZ.out
      have c0 : wr.cell? ⟨w.heap.size, 0, none⟩ = some (.slice h.ca h.cs.length h.cc) := hblk z 0
      have c1 : wr.cell? ⟨w.heap.size, 1, none⟩ = some (.slice h.da h.ds.length h.dc) := hblk z 1
      clear z
      by_cases hlt : k < h.ds.length ∧ k < 130
      · have t1 : (k : Int) < h.ds.length := by omega
        have t2 : (k : Int) < 130 := by omega
        obtain ⟨b, off, x, hca, hx, hwf, g0, g1, g2, g3, g4, g5, g6⟩ := (HR.out.ds.below hbw).at k hlt.1
        have HLT := Lib.hid hlt
        rw [hca] at c1 ⊢
        generalize x.ik = s1 at *
        generalize x.iv = s2 at *
        clear hx hbw hlt hk hk1 hwf g0 g3 g4 g5 g6
        go_upto_region 10 with (fail)
        have x1 := fun st : ExtW wr => st.cell c1
        have x2 := fun st : ExtW wr => st.cell g1
        have x3 := fun st : ExtW wr => st.cell g2
        clear c0 c1 g1 g2
        refine wp_region_ext (by kernel_rfl) (by kernel_rfl) ?_
        repeat (go_big_quiet_step (fail))
        refine wpQuiet_nil ?_
        rintro W ⟨⟨W2, hW⟩, rfl⟩
        clear x1 x2 x3
        have HB5 := Lib.hid (HBW.out.trans (hW.mono HBW.out.size))
        clear hW
        go_wp2
        all_goals go_roundw
        all_goals (first
          | exact ⟨k + 1, _, by have := HLT.out; omega, by have := HLT.out; omega, by go_num, rfl, HB5.out⟩
          | (have := HLT.out; simp [intOf]; omega))
      · rcases (by omega : ¬ k < h.ds.length ∨ (k < h.ds.length ∧ ¬ k < 130)) with hn | ⟨hn1, hn2⟩
        · have t1 : ¬ (k : Int) < h.ds.length := by omega
          clear hlt hn
          go_wp2
          all_goals go_meet
          all_goals exact ⟨y, rfl, HBW.out⟩
        · have t1 : (k : Int) < h.ds.length := by omega
          have t2 : ¬ (k : Int) < 130 := by omega
          clear hlt hn1 hn2
          go_wp2
          all_goals go_meet
          all_goals exact ⟨y, rfl, HBW.out⟩
  case rest =>
  clear HBW0
  obtain ⟨y, rfl, hbw⟩ := hcut
  have z := (hbw.block _ (Array.getElem?_eq_some_iff.1 HZ.out).1).trans HZ.out
  have HBW := Lib.hid (HB.out.trans (hbw.mono HB.out.size))
  have c0 : wc.cell? ⟨w.heap.size, 0, none⟩ = some (.slice h.ca h.cs.length h.cc) := hblk z 0
  have c1 : wc.cell? ⟨w.heap.size, 1, none⟩ = some (.slice h.da h.ds.length h.dc) := hblk z 1
  clear z hbw
  by_cases t0 : 9000 < y
  · go_wp2
    go_ret
    exact ⟨true, rfl, HBW.out, fun h => by cases h⟩
  · by_cases t1 : 120 < h.cs.length
    · have t1' : (120 : Int) < h.cs.length := by omega
      go_wp2
      go_ret
      exact ⟨true, rfl, HBW.out, fun h => by cases h⟩
    · have t1' : ¬ (120 : Int) < h.cs.length := by omega
      by_cases t2 : 60 < h.ds.length
      · have t2' : (60 : Int) < h.ds.length := by omega
        go_wp2
        go_ret
        exact ⟨true, rfl, HBW.out, fun h => by cases h⟩
      · have t2' : ¬ (60 : Int) < h.ds.length := by omega
        have P := Lib.hid (show h.cs.length ≤ 120 ∧ h.ds.length ≤ 60 by omega)
        clear t1 t2
        go_wp2
        go_ret
        exact ⟨false, rfl, HBW.out, fun _ => P.out⟩
end Go.Proofs.Ytmagpbbjjkmbpaa
