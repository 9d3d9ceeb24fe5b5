/-
  HistsOrder: the walk.
-/
import Derived.Test.YtmagpbbjjkmbpaaHistRefL
import Derived.Test.YtmagpbbjjkmbpaaHistLives
import Derived.Deep.DeepCutAuto
import Derived.Deep.CutBlock
namespace Go.Proofs.Ytmagpbbjjkmbpaa
open Go.RowKit Go.Maps Go.Sort
set_option linter.unusedVariables false

/-- The history, its copy, and the document's form of it. -/
structure S34 (W : World) (h T R : Hst) (q pt pr : Nat) : Prop where
  bq : W.heap[q]? = some (.cells h.cells 25 (0, 0))
  bt : W.heap[pt]? = some (.cells T.cells 25 (0, 0))
  br : W.heap[pr]? = some (.cells R.cells 32 (0, 0))
  rh : HstRd W h
  rt : HstRd W T
  rr : HstRd W R
theorem S34.below {W W' : World} {h T R : Hst} {q pt pr : Nat} (s : S34 W h T R q pt pr) (hb : Below W.heap.size W W') : S34 W' h T R q pt pr :=
  ⟨(hb.block _ (Array.getElem?_eq_some_iff.1 s.bq).1).trans s.bq, (hb.block _ (Array.getElem?_eq_some_iff.1 s.bt).1).trans s.bt, (hb.block _ (Array.getElem?_eq_some_iff.1 s.br).1).trans s.br, s.rh.below hb, s.rt.below hb, s.rr.below hb⟩
open Classical in
theorem well_lit {h : Hst} {b : Bool} {w : World} {f : FuncId} {v : Value} (hb : b = decide (Wel (cws h.cs) (HD.sts h.ds))) (hc : Calls Try.prog f #[v] w (WellPost h w)) : Calls Try.prog f #[v] w fun e w' => e = .returned (.bool b) ∧ Below w.heap.size w w' :=
  hc.mono fun e w' ⟨g, he, hbl, hg⟩ => ⟨by
    rw [he, hb]
    cases g
    · rw [decide_eq_false (fun c => by have := hg.2 c; cases this)]
    · rw [decide_eq_true (hg.1 rfl)], hbl⟩
theorem setCells_ty : ∀ (vs : List Value) (o : Nat) (w : World) {g T : Nat} {cs : Array Value}, w.heap[g]? = some (.cells cs T (0, 0)) → ∃ cs', (w.setCells g o vs).heap[g]? = some (.cells cs' T (0, 0))
  | [], _, _, _, _, cs, h => ⟨cs, h⟩
  | v :: vs, o, w, g, T, cs, h => setCells_ty vs (o + 1) (w.setCell ⟨g, o, none⟩ v) (setCell_same h o v)
/-- What of the row of a thread's calls is not yet gone through. -/
def CLeft (W : World) (base : Nat) (ao : Option Addr) (L : List HC) (k : Nat) : Prop := ∀ j, k ≤ j → (hj : j < L.length) → ∃ g cur, ao = some ⟨g, 0, none⟩ ∧ base ≤ g ∧ W.heap[g]? = some (.cells cur 57 (0, 0)) ∧ W.rangeAt g (j * 20) (L[j]).cells
theorem cleft_own {W : World} {base cap : Nat} {ao : Option Addr} {L : List HC} (h : W.ownsRow base 57 20 (.slice ao L.length cap) L.length (flatC L)) : CLeft W base ao L 0 := fun j _ hj => by
  obtain ⟨h1, ⟨e, h0⟩ | ⟨g, cap', cur, e, hb, hg, hn, hm, hs, ht⟩⟩ := h
  · omega
  · simp only [Value.slice.injEq] at e
    obtain ⟨rfl, -, rfl⟩ := e
    refine ⟨g, cur, rfl, hb, hg, fun i v hv => ?_⟩
    have hi : i < 20 := (List.getElem?_eq_some_iff.1 hv).1
    rw [hblk hg, ← hv, ← flatC_at L j hj i hi, ← ht, List.getElem?_take, if_pos (by omega)]
    simp
theorem CLeft.below {W W' : World} {base : Nat} {ao : Option Addr} {L : List HC} {k : Nat} (h : CLeft W base ao L k) (hb : Below W.heap.size W W') : CLeft W' base ao L k := fun j h1 hj => by
  obtain ⟨g, cur, e, hg, hh, hr⟩ := h j h1 hj
  exact ⟨g, cur, e, hg, (hb.block _ (Array.getElem?_eq_some_iff.1 hh).1).trans hh, range_below hr hb⟩
theorem CLeft.set {W : World} {base g : Nat} {L : List HC} {k : Nat} {vs : List Value} (h : CLeft W base (some ⟨g, 0, none⟩) L k) (hv : vs.length = 20) : CLeft (W.setCells g (k * 20) vs) base (some ⟨g, 0, none⟩) L (k + 1) := fun j h1 hj => by
  obtain ⟨g', cur, e, hg, hh, hr⟩ := h j (by omega) hj
  simp only [Option.some.injEq, Addr.mk.injEq, and_true] at e
  subst e
  obtain ⟨cs', hc⟩ := setCells_ty vs (k * 20) W hh
  refine ⟨g, cs', rfl, hg, hc, fun i v hv2 => ?_⟩
  rw [World.cell?_setCells_out g vs (k * 20) W _ (fun _ _ => by show j * 20 + i < k * 20 ∨ k * 20 + vs.length ≤ j * 20 + i; omega)]
  exact hr i v hv2
set_option maxRecDepth 100000 in
set_option maxHeartbeats 8000000 in
theorem order34_any (h : Hst) (t : Int) (w : World) (hr : HstRd w h) :
    Calls Try.prog 3 #[.agg #[.slice h.ca h.cs.length h.cc, .slice h.da h.ds.length h.dc], .int .i64 t] w fun e w' => e = .returned (.bool true) ∧ Below w.heap.size w w' := by
  have hB := hballoc w (.cells h.cells 25)
  have z := heap_alloc_new w (.cells h.cells 25)
  have HR := Lib.hid (hr.below hB); have HB := Lib.hid hB; have HZ := Lib.hid z
  clear hr hB z
  go_enter Try.func3, Try.ntmps3
  go_upto_region 1 with (fail)
  change Code.wp _ _ _ _ (w.alloc (.cells h.cells 25))
  obtain ⟨w1, hw1⟩ : ∃ w1, w1 = w.alloc (.cells h.cells 25) := ⟨_, rfl⟩
  rw [← hw1] at HR HB HZ ⊢
  clear hw1
  obtain ⟨q, hq⟩ : ∃ q, q = w.heap.size := ⟨_, rfl⟩
  rw [← hq] at HZ ⊢
  have c0 : w1.cell? ⟨q, 0, none⟩ = some (.slice h.ca h.cs.length h.cc) := hblk HZ.out 0
  have c1 : w1.cell? ⟨q, 1, none⟩ = some (.slice h.da h.ds.length h.dc) := hblk HZ.out 1
  have hgr := great34_any h w1 HR.out
  clear hq
  have hq1 := HZ.out
  go_upto_region 3 with (first
    | (go_at_call 6; refine hgr.mono ?_; rintro e w2 ⟨g, rfl, b2, hg⟩; have B2 := Lib.hid b2; have HG := Lib.hid hg; have c0 : w2.cell? ⟨q, 0, none⟩ = some (.slice h.ca h.cs.length h.cc) := hblk ((b2.block _ (Array.getElem?_eq_some_iff.1 hq1).1).trans hq1) 0; have c1 : w2.cell? ⟨q, 1, none⟩ = some (.slice h.da h.ds.length h.dc) := hblk ((b2.block _ (Array.getElem?_eq_some_iff.1 hq1).1).trans hq1) 1; clear b2 hg hgr hq1; cases g))
  rotate_left
  · go_wp2_with (go_at_call 7; refine (lives34 _).mono ?_; rintro e w4 ⟨rfl, b4⟩)
    go_ret
    have h1 := HB.out.trans (B2.out.mono HB.out.size)
    exact ⟨rfl, h1.trans (b4.mono h1.size)⟩
  have H12 : Hid (h.cs.length ≤ 120 ∧ h.ds.length ≤ 60) := HG.out trivial
  have HI2 : Hid ((Try.prog.info? 25).map (·.size) = some 2) := Lib.hid (by kernel_rfl)
  have HJ2 : Hid ((Try.prog.info? 32).map (·.size) = some 2) := Lib.hid (by kernel_rfl)
  have hcp := copied_any h w2 (HR.out.below B2.out) H12.out.1 H12.out.2
  have hcs1 : (h.cs.length : Int) ≤ 120 := by have := H12.out.1; omega
  have hds1 : (h.ds.length : Int) ≤ 60 := by have := H12.out.2; omega
  clear HG
  go_upto_region 4 with (first
    | (go_at_call 8; refine hcp.mono ?_; intro e w3 hh; have HH := Lib.hid hh; clear hh hcp; obtain ⟨T, hh1, q1⟩ := HH.out; subst hh1; have HT := Lib.hid q1; clear q1 HH c0 c1; unfold Hst.cells)
    | (refine wpList_store_new rfl 25 (.tmp 5) (.tmp 17) rfl w3 _ #[.slice T.ca T.cs.length T.cc, .slice T.da T.ds.length T.dc] rfl rfl HI2.out (by simp) (by simp [Value.oneCell']) ?_))
  go_frame
  have b4 := hballoc w3 (.cells T.cells 25)
  have z4 := heap_alloc_new w3 (.cells T.cells 25)
  change Code.wp _ _ _ _ (w3.alloc (.cells T.cells 25))
  obtain ⟨pt, hpt⟩ : ∃ pt, pt = w3.heap.size := ⟨_, rfl⟩
  rw [← hpt] at z4 ⊢
  have b43 := B2.out.trans ((HT.out.2.2.2.trans (b4.mono HT.out.2.2.2.size)).mono B2.out.size)
  have rt4 := HT.out.2.2.1.below b4
  have TC := Lib.hid HT.out.1; have TD := Lib.hid HT.out.2.1
  generalize w3.alloc (.cells T.cells 25) = w4 at *
  have HB4 := Lib.hid b43; have HRT4 := Lib.hid rt4; have HZ4 := Lib.hid z4
  clear b4 z4 b43 rt4 hpt HT B2
  have zq := (HB4.out.block _ (Array.getElem?_eq_some_iff.1 HZ.out).1).trans HZ.out
  have HZQ4 := Lib.hid zq
  have c0 : w4.cell? ⟨q, 0, none⟩ = some (.slice h.ca h.cs.length h.cc) := hblk zq 0
  have c1 : w4.cell? ⟨q, 1, none⟩ = some (.slice h.da h.ds.length h.dc) := hblk zq 1
  have hot := other_any h w4 (HR.out.below HB4.out) H12.out.1 H12.out.2
  clear zq
  go_upto_region 5 with (first
    | (go_at_call 9; refine hot.mono ?_; intro e w5 hh; have HH := Lib.hid hh; clear hh hot; obtain ⟨R, hh1, q1⟩ := HH.out; subst hh1; have HT := Lib.hid q1; clear q1 HH c0 c1; unfold Hst.cells)
    | (refine wpList_store_new rfl 32 (.tmp 6) (.tmp 19) rfl w5 _ #[.slice R.ca R.cs.length R.cc, .slice R.da R.ds.length R.dc] rfl rfl HJ2.out (by simp) (by simp [Value.oneCell']) ?_))
  go_frame
  have b4 := hballoc w5 (.cells R.cells 32)
  have z6 := heap_alloc_new w5 (.cells R.cells 32)
  change Code.wp _ _ _ _ (w5.alloc (.cells R.cells 32))
  obtain ⟨pr, hpr⟩ : ∃ pr, pr = w5.heap.size := ⟨_, rfl⟩
  rw [← hpr] at z6 ⊢
  have b46 := HT.out.2.2.2.trans (b4.mono HT.out.2.2.2.size)
  have rr6 := HT.out.2.2.1.below b4
  have RC := Lib.hid HT.out.1; have RD := Lib.hid HT.out.2.1
  generalize w5.alloc (.cells R.cells 32) = w6 at *
  have HS6 : Hid (S34 w6 h T R q pt pr) := Lib.hid ⟨(b46.block _ (Array.getElem?_eq_some_iff.1 HZQ4.out).1).trans HZQ4.out, (b46.block _ (Array.getElem?_eq_some_iff.1 HZ4.out).1).trans HZ4.out, z6, (HR.out.below HB4.out).below b46, HRT4.out.below b46, rr6⟩
  have HB6 := Lib.hid (HB.out.trans ((HB4.out.trans (b46.mono HB4.out.size)).mono HB.out.size))
  clear b4 z6 b46 rr6 hpr HT HB4 HZQ4 HRT4 HZ4 HZ HR HB
  have TL := Lib.hid (show T.cs.length ≤ 120 ∧ T.ds.length ≤ 60 by rw [TC.out, TD.out]; exact H12.out)
  have RL := Lib.hid (show R.cs.length ≤ 120 ∧ R.ds.length ≤ 60 by rw [RC.out, RD.out]; exact H12.out)
  have c0 : w6.cell? ⟨pt, 0, none⟩ = some (.slice T.ca T.cs.length T.cc) := hblk HS6.out.bt 0
  have c1 : w6.cell? ⟨pt, 1, none⟩ = some (.slice T.da T.ds.length T.dc) := hblk HS6.out.bt 1
  have hor := order_any T w6 HS6.out.rt TL.out.1 TL.out.2
  go_upto_region 6 with (go_at_call 10; refine hor.mono ?_; rintro e w7 ⟨v, O, rfl, he, ho, hb⟩; obtain ⟨oa, rfl, -⟩ := he.sl; have HE7 := Lib.hid he; have HO := Lib.hid ho; have HB7 := Lib.hid hb; clear he ho hb hor c0 c1)
  have HS7 := Lib.hid (HS6.out.below HB7.out)
  have c0 : w7.cell? ⟨pr, 0, none⟩ = some (.slice R.ca R.cs.length R.cc) := hblk HS7.out.br 0
  have c1 : w7.cell? ⟨pr, 1, none⟩ = some (.slice R.da R.ds.length R.dc) := hblk HS7.out.br 1
  have hor := rorder_any R w7 HS7.out.rr RL.out.1 RL.out.2
  go_upto_region 7 with (go_at_call 11; refine hor.mono ?_; rintro e w8 ⟨v, O', rfl, he, ho, hb⟩; obtain ⟨ob, ocap, rfl⟩ := own_sl34 he; have HE8 := Lib.hid he; have HO' := Lib.hid ho; have HB8 := Lib.hid hb; clear he ho hb hor c0 c1)
  have hoo : O' = O := by
    have h1 := HO.out; have h2 := HO'.out
    rw [TC.out, TD.out] at h1
    rw [RC.out, RD.out] at h2
    exact h2.unique h1
  subst hoo
  have HS8 := Lib.hid (HS7.out.below HB8.out)
  have HE7' := Lib.hid (HE7.out.below HB8.out)
  clear HE7 HS7
  have c0 : w8.cell? ⟨pt, 0, none⟩ = some (.slice T.ca T.cs.length T.cc) := hblk HS8.out.bt 0
  have c1 : w8.cell? ⟨pt, 1, none⟩ = some (.slice T.da T.ds.length T.dc) := hblk HS8.out.bt 1
  have hof := of34_any T t w8 HS8.out.rt TL.out.1
  obtain ⟨L, hL⟩ : ∃ L, L = ofL T.cs t := ⟨_, rfl⟩
  rw [← hL] at hof
  have HL := Lib.hid hL
  have HLW := Lib.hid (show (∀ x ∈ L, x.wf) ∧ L.length ≤ 120 by
    rw [hL]
    refine ⟨fun x hx => HS8.out.rt.cs.wf x ((List.mem_filter.1 hx).1), Nat.le_trans (List.length_filter_le _ _) TL.out.1⟩)
  clear hL
  go_upto_region 8 with (go_at_call 12; refine hof.mono ?_; rintro e w9 ⟨ac, acap, rfl, he, hb⟩; have HE9 := Lib.hid he; have HB9 := Lib.hid hb; clear he hb hof c0 c1)
  have HS9 := Lib.hid (HS8.out.below HB9.out)
  have c0 : w9.cell? ⟨pr, 0, none⟩ = some (.slice R.ca R.cs.length R.cc) := hblk HS9.out.br 0
  have c1 : w9.cell? ⟨pr, 1, none⟩ = some (.slice R.da R.ds.length R.dc) := hblk HS9.out.br 1
  have hof := rof_any R t w9 HS9.out.rr RL.out.1
  go_upto_region 9 with (go_at_call 13; refine hof.mono ?_; rintro e w10 ⟨v10, rfl, he, hb⟩; have HE10 := Lib.hid he; have HB10 := Lib.hid hb; clear he hb hof c0 c1)
  have hL2 : ofL R.cs t = L := by rw [HL.out, RC.out, TC.out]
  have he10 : RCRow w10 w9.heap.size v10 L := hL2 ▸ HE10.out
  obtain ⟨ad, dcap, rfl⟩ := own_sl34 he10
  have HD10 := Lib.hid he10
  clear he10 hL2 HE10
  have HS10 := Lib.hid (HS9.out.below HB10.out)
  have HBA := Lib.hid (HB9.out.trans (HB10.out.mono HB9.out.size))
  have HBW := Lib.hid (HB6.out.trans ((HB7.out.trans ((HB8.out.trans (HBA.out.mono HB8.out.size)).mono HB7.out.size)).mono HB6.out.size))
  have HW8 := Lib.hid (show w.heap.size ≤ w8.heap.size by have := HB6.out.size; have := HB7.out.size; have := HB8.out.size; omega)
  have HC10 := Lib.hid ((cleft_own HE9.out).below HB10.out)
  have HE8' := Lib.hid (own_bel HE8.out HBA.out)
  have HE7'' := Lib.hid (HE7'.out.below HBA.out)
  obtain ⟨bw, hbw⟩ : ∃ bw : Bool, bw = @decide (Wel (cws h.cs) (HD.sts h.ds)) (Classical.propDecidable _) := ⟨_, rfl⟩
  have wt : ∀ W, Below w10.heap.size w10 W → Calls Try.prog 14 #[.agg #[.slice T.ca T.cs.length T.cc, .slice T.da T.ds.length T.dc]] W fun e w' => e = .returned (.bool bw) ∧ Below W.heap.size W w' := fun W hW => well_lit (by rw [TC.out, TD.out]; exact hbw) (well_any T W (HS10.out.rt.below hW) TL.out.1 TL.out.2)
  have wr' : ∀ W, Below w10.heap.size w10 W → Calls Try.prog 15 #[.agg #[.slice R.ca R.cs.length R.cc, .slice R.da R.ds.length R.dc]] W fun e w' => e = .returned (.bool bw) ∧ Below W.heap.size W w' := fun W hW => well_lit (by rw [RC.out, RD.out]; exact hbw) (rwell_any R W (HS10.out.rr.below hW) RL.out.1 RL.out.2)
  have WT := fun s : ExtW w10 => wt s.val s.below
  have WR := fun s : ExtW w10 => wr' s.val s.below
  clear HE7' HE8 HE9 HS9 HB6 HB7 HB8 HB9 HB10 wt wr' hbw HO'
  have c0 : w10.cell? ⟨pt, 0, none⟩ = some (.slice T.ca T.cs.length T.cc) := hblk HS10.out.bt 0
  have c1 : w10.cell? ⟨pt, 1, none⟩ = some (.slice T.da T.ds.length T.dc) := hblk HS10.out.bt 1
  have d0 : w10.cell? ⟨pr, 0, none⟩ = some (.slice R.ca R.cs.length R.cc) := hblk HS10.out.br 0
  have d1 : w10.cell? ⟨pr, 1, none⟩ = some (.slice R.da R.ds.length R.dc) := hblk HS10.out.br 1
  have y0 := fun st : ExtW w10 => st.cell c0
  have y1 := fun st : ExtW w10 => st.cell c1
  have y2 := fun st : ExtW w10 => st.cell d0
  have y3 := fun st : ExtW w10 => st.cell d1
  have bb : (bw == bw) = true := by simp
  clear c0 c1 d0 d1
  refine wp_region_ext (by kernel_rfl) (by kernel_rfl) ?_
  repeat (go_big_quiet_step (first | (go_at_call 14; with_reducible refine calls_ext (WT _)) | (go_at_call 15; with_reducible refine calls_ext (WR _))))
  refine wpQuiet_nil ?_
  rintro W ⟨⟨W2, hW⟩, rfl⟩
  have HBD := Lib.hid (HBA.out.trans (hW.mono HBA.out.size))
  have HC0 := Lib.hid (HC10.out.below hW)
  have HD0 := Lib.hid (show RCRow W w9.heap.size (.slice ad L.length dcap) L from own_bel HD10.out hW)
  have HP0 := Lib.hid (show RRow W w7.heap.size (.slice ob O'.length ocap) O' from own_bel HE8'.out hW)
  have HQ0 := Lib.hid (HE7''.out.below hW)
  have HW0 := Lib.hid (HBW.out.trans (hW.mono HBW.out.size))
  have hol : O'.length ≤ 180 := by
    have h1 := HO.out.len; have h2 := TL.out.1; have h3 := TL.out.2
    simp only [HC.pts, HD.sts, List.length_map] at h1
    omega
  have hol1 : (O'.length : Int) ≤ 180 := by omega
  have hll1 : (L.length : Int) ≤ 120 := by have := HLW.out.2; omega
  clear hW hol y0 y1 y2 y3 WT WR bb HC10 HD10 HE8' HE7'' HS10 HBA HBW
  go_wp2_with fail
  go_loopw [11] (fun i wr => ∃ k : Nat, k ≤ O'.length ∧ i = .int .i64 k ∧ Hid (Below W.heap.size W wr)) (fun i _ => O'.length - (intOf i).toNat)
  case atStart => exact ⟨0, by omega, rfl, Lib.hid (Below.refl _ _)⟩
  case round =>
    obtain ⟨k, hk, rfl, HB1⟩ := hrel
    by_cases hlt : k < O'.length
    · have hlt' : (k : Int) < O'.length := by omega
      obtain ⟨g, x, rfl, hx, e0, e1, e2⟩ := (HQ0.out.below HB1.out).at k hlt
      obtain ⟨g2, cap2, hv, f0, f1, f2⟩ := rrow_at (show RRow wr w7.heap.size (.slice ob O'.length ocap) O' from own_bel HP0.out HB1.out) k x hx
      simp only [Value.slice.injEq] at hv
      obtain ⟨rfl, -, -⟩ := hv
      have HLT := Lib.hid hlt
      clear hlt hk hx
      go_upto_region 14 with (fail)
      have x0 := fun st : ExtW wr => st.cell e0
      have x1 := fun st : ExtW wr => st.cell e1
      have x2 := fun st : ExtW wr => st.cell e2
      have x3 := fun st : ExtW wr => st.cell f0
      have x4 := fun st : ExtW wr => st.cell f1
      have x5 := fun st : ExtW wr => st.cell f2
      clear e0 e1 e2 f0 f1 f2
      refine wp_region_ext (by kernel_rfl) (by kernel_rfl) ?_
      repeat (go_big_quiet_step (fail))
      refine wpQuiet_nil ?_
      rintro W3 ⟨⟨W4, hW⟩, rfl⟩
      have HB2 := Lib.hid (HB1.out.trans (hW.mono HB1.out.size))
      clear hW x0 x1 x2 x3 x4 x5
      go_wp2_with fail
      go_roundw
      case rel => exact ⟨k + 1, HLT.out, by go_num, HB2⟩
      case measure => have := HLT.out; simp [intOf]; omega
    · obtain rfl : k = O'.length := by omega
      have HC1 := Lib.hid (HC0.out.below HB1.out)
      have HD1 := Lib.hid (show RCRow wr w9.heap.size (.slice ad L.length dcap) L from own_bel HD0.out HB1.out)
      have HBE := Lib.hid (HBD.out.trans (HB1.out.mono HBD.out.size))
      have HBF := Lib.hid (HW0.out.trans (HB1.out.mono HW0.out.size))
      clear hk hlt HC0 HD0 HP0 HQ0 HBD HW0 HB1
      go_wp2_with fail
      obtain ⟨wo, hwo⟩ : ∃ wo : World, wo = wr := ⟨_, rfl⟩
      go_loopw [12] (fun i wr => ∃ k : Nat, k ≤ L.length ∧ i = .int .i64 k ∧ Hid (CLeft wr w8.heap.size ac L k) ∧ Hid (RCRow wr w9.heap.size (.slice ad L.length dcap) L) ∧ Hid (Below w8.heap.size w8 wr) ∧ Hid (Below w.heap.size w wr)) (fun i _ => L.length - (intOf i).toNat)
      case atStart => exact ⟨0, by omega, rfl, HC1, HD1, HBE, HBF⟩
      case round =>
        clear HC1 HD1 HBE HBF hwo
        obtain ⟨k, hk, rfl, HC1, HD1, HBE, HBF⟩ := hrel
        by_cases hlt : k < L.length
        · have hlt' : (k : Int) < L.length := by omega
          obtain ⟨g, cur, rfl, hgb, hgh, hrg⟩ := HC1.out k (Nat.le_refl _) hlt
          obtain ⟨b', off', x, cl, hca', hx, rfl, hsz, h1c, hld⟩ := (hcs_ownT HD1.out HLW.out.1).whole k hlt
          subst hca'
          obtain rfl : x = L[k] := Option.some.inj (hx.symm.trans (List.getElem?_eq_getElem hlt))
          generalize hxk : L[k] = x at *
          have HI20 : Hid ((Try.prog.info? 57).map (·.size) = some x.cells.length) := Lib.hid (by kernel_rfl)
          have HJ20 : Hid ((Try.prog.info? 55).map (·.size) = some x.cells.length) := Lib.hid (by kernel_rfl)
          have HLT := Lib.hid hlt; have HRG := Lib.hid hrg; have HLD := Lib.hid hld; have HGH := Lib.hid hgh; have HGB := Lib.hid hgb
          have OC := fun s : ExtW wr => othercall_any x s.val
          clear hlt hrg hld hgh hgb hx hxk hk hsz h1c
          go_upto_region 19 with (fail)
          refine wp_region_ext (by kernel_rfl) (by kernel_rfl) ?_
          iterate 3 (go_big_quiet_step (fail))
          refine wpQuiet_mid rfl 57 (.tmp 114) rfl g (k * 20) rfl x.cells _ (fun w hw => by obtain ⟨⟨W2, hW⟩, rfl⟩ := hw; exact range_below HRG.out hW) Try.underlying57 rfl HI20.out ?_
          go_frame
          go_big_quiet_step (first | (go_at_call 16; with_reducible refine calls_ext (OC _)))
          iterate 3 (go_big_quiet_step (fail))
          refine wpQuiet_mid rfl 55 (.tmp 119) rfl b' (off' + k * 20) rfl x.cells _ (fun w hw => by obtain ⟨⟨W2, hW⟩, rfl⟩ := hw; exact range_below HLD.out hW) Try.underlying55 rfl HJ20.out ?_
          go_frame
          have N := fun W : World => neq_calledB x W
          go_big_quiet_step (fail)
          clear N
          refine wpQuiet_nil ?_
          rintro W3 ⟨⟨W4, hW⟩, rfl⟩
          have HC2 := Lib.hid (HC1.out.below hW)
          have HD2 := Lib.hid (show RCRow W3 w9.heap.size (.slice (some ⟨b', off', none⟩) L.length dcap) L from own_bel HD1.out hW)
          have HBE2 := Lib.hid (HBE.out.trans (hW.mono HBE.out.size))
          have HBF2 := Lib.hid (HBF.out.trans (hW.mono HBF.out.size))
          have HGH2 := Lib.hid ((hW.block _ (Array.getElem?_eq_some_iff.1 HGH.out).1).trans HGH.out)
          have hr2 := range_below HRG.out hW
          have TH : Hid (W3.there g (k * 20) 20) := Lib.hid (fun j hj => ⟨by
            have hl : j < x.cells.length := hj
            rw [hr2 j x.cells[j] (List.getElem?_eq_getElem hl)]; rfl, hbfz HGH2.out _⟩)
          have HZ20 : Hid ((Try.prog.info? 57).map (·.size) = some 20) := Lib.hid (by kernel_rfl)
          clear hW hr2 OC HC1 HD1 HBE HBF HGH HRG HLD HI20 HJ20
          go_upto_region 21 with (fail)
          go_upto_region 18 with (refine wpList_store_mid rfl 57 (.tmp 125) (.tmp 124) rfl g (k * 20) #[.int .i64 0, .int .u8 0, .string ⟨#[]⟩, .string ⟨#[]⟩, .int .u32 0, .int .i64 0, .int .u64 0, .int .u64 0, .int .i64 0, .int .i64 0, .int .u8 0, .int .u64 0, .string ⟨#[]⟩, .string ⟨#[]⟩, .int .u32 0, .int .u64 0, .int .i64 0, .int .i64 0, .int .u64 0, .int .i64 0] rfl rfl TH.out HZ20.out (by simp [Value.oneCell']) ?_)
          go_frame
          have hkp := setCells_keeps W3 g (k * 20) [.int .i64 0, .int .u8 0, .string ⟨#[]⟩, .string ⟨#[]⟩, .int .u32 0, .int .i64 0, .int .u64 0, .int .u64 0, .int .i64 0, .int .i64 0, .int .u8 0, .int .u64 0, .string ⟨#[]⟩, .string ⟨#[]⟩, .int .u32 0, .int .u64 0, .int .i64 0, .int .i64 0, .int .u64 0, .int .i64 0]
          have HC3 := Lib.hid (HC2.out.set (vs := [.int .i64 0, .int .u8 0, .string ⟨#[]⟩, .string ⟨#[]⟩, .int .u32 0, .int .i64 0, .int .u64 0, .int .u64 0, .int .i64 0, .int .i64 0, .int .u8 0, .int .u64 0, .string ⟨#[]⟩, .string ⟨#[]⟩, .int .u32 0, .int .u64 0, .int .i64 0, .int .i64 0, .int .u64 0, .int .i64 0]) rfl)
          have HD3 := Lib.hid (show RCRow (W3.setCells g (k * 20) [.int .i64 0, .int .u8 0, .string ⟨#[]⟩, .string ⟨#[]⟩, .int .u32 0, .int .i64 0, .int .u64 0, .int .u64 0, .int .i64 0, .int .i64 0, .int .u8 0, .int .u64 0, .string ⟨#[]⟩, .string ⟨#[]⟩, .int .u32 0, .int .u64 0, .int .i64 0, .int .i64 0, .int .u64 0, .int .i64 0]) w9.heap.size (.slice (some ⟨b', off', none⟩) L.length dcap) L from own_keeps HD2.out hkp HGH2.out (by decide))
          have HBE3 := Lib.hid (keeps_below hkp HBE2.out HBE2.out.size (fun j hj => by rw [hj]; exact HGB.out))
          have HBF3 := Lib.hid (keeps_below hkp HBF2.out HBF2.out.size (fun j hj => by rw [hj]; exact Nat.le_trans HW8.out HGB.out))
          clear hkp HC2 HD2 HBE2 HBF2 HGH2 TH
          generalize W3.setCells g (k * 20) [.int .i64 0, .int .u8 0, .string ⟨#[]⟩, .string ⟨#[]⟩, .int .u32 0, .int .i64 0, .int .u64 0, .int .u64 0, .int .i64 0, .int .i64 0, .int .u8 0, .int .u64 0, .string ⟨#[]⟩, .string ⟨#[]⟩, .int .u32 0, .int .u64 0, .int .i64 0, .int .i64 0, .int .u64 0, .int .i64 0] = w30 at *
          go_wp2_with fail
          go_roundw
          case rel => exact ⟨k + 1, HLT.out, by go_num, HC3, HD3, HBE3, HBF3⟩
          case measure => have := HLT.out; simp [intOf]; omega
        · obtain rfl : k = L.length := by omega
          have s := HS8.out.below HBE.out
          have c0 : wr.cell? ⟨pt, 0, none⟩ = some (.slice T.ca T.cs.length T.cc) := hblk s.bt 0
          have c1 : wr.cell? ⟨pt, 1, none⟩ = some (.slice T.da T.ds.length T.dc) := hblk s.bt 1
          have d0 : wr.cell? ⟨q, 0, none⟩ = some (.slice h.ca h.cs.length h.cc) := hblk s.bq 0
          have d1 : wr.cell? ⟨q, 1, none⟩ = some (.slice h.da h.ds.length h.dc) := hblk s.bq 1
          have hlf := left_any T h wr s.rt s.rh TC.out TD.out H12.out.1 H12.out.2
          clear hk hlt s
          go_wp2_with (first
            | (go_at_call 17; refine hlf.mono ?_; rintro e w40 ⟨rfl, b40⟩; have B40 := Lib.hid b40; clear b40 hlf c0 c1 d0 d1)
            | (go_at_call 7; refine (lives34 _).mono ?_; rintro e w41 ⟨rfl, b41⟩; have B41 := Lib.hid b41; clear b41))
          go_ret
          have h1 := HBF.out.trans (B40.out.mono HBF.out.size)
          exact ⟨rfl, h1.trans (B41.out.mono h1.size)⟩
set_option maxRecDepth 100000 in
theorem walkHistsOrder {H1 : Type} (w : World) (enc : TypeId × Value → H1) (base : Nat) (v : Value) (d : DataW H1) (p : List MemPlace) (k : DataW.Trod enc Try.prog w 0 (fun _ => true) true 25 v d p) (o : Value.okWide Try.prog w .any base 25 v) (t : Int) (hn : (Lit.int .i64 t).wf = true) :
    Calls Try.prog 3 #[v, .int .i64 t] w fun e w' => e = .returned (.bool true) ∧ Below w.heap.size w w' := by
  obtain ⟨h, rfl, hr⟩ := hst_open k o
  exact order34_any h t w hr
end Go.Proofs.Ytmagpbbjjkmbpaa
