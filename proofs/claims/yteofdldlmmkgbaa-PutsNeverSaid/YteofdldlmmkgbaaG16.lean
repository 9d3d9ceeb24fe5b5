/-
  Texts of this prover, merged: PutsNever.
-/
import Derived.Test.YteofdldlmmkgbaaG15
/-
  The walk of PutsNever (written by genputs.py).
-/
namespace Go.Proofs.Yteofdldlmmkgbaa
open Go.RowKit Go.Maps TagPure
set_option linter.unusedVariables false

theorem wf_small (k : Nat) (hk : k < 4) : (Lit.int .i64 (k : Int)).wf = true := by
  match k, hk with
  | 0, _ | 1, _ | 2, _ | 3, _ => rfl
theorem wfu_small (k : Nat) (hk : k < 4) : (Lit.int .u64 (4137 + (k : Int))).wf = true := by
  match k, hk with
  | 0, _ | 1, _ | 2, _ | 3, _ => rfl
set_option maxRecDepth 10000 in
set_option maxHeartbeats 8000000 in
theorem never_any (l : List Int) (ax : Option Addr) (capx : Nat) (w : World) (hx : Byb w ax capx l) (t : Int) (ht : (Lit.int .u8 t).wf = true) :
    Calls Try.prog 7 #[.slice ax l.length capx, .int .u8 t] w fun e w' => e = .returned (.bool true) ∧ Below w.heap.size w w' := by
  have htb : 0 ≤ t ∧ t < 256 := by
    have hmin : IntKind.u8.min = 0 := rfl
    have hmax : IntKind.u8.max = 255 := rfl
    simp only [Lit.wf, Bool.and_eq_true, decide_eq_true_eq] at ht; omega
  obtain ⟨t5, ht5⟩ : ∃ t5, t5 = t % 255 := ⟨_, rfl⟩
  have et5 : t.tmod 255 = t5 := by rw [ht5]; exact Int.tmod_eq_emod_of_nonneg htb.1
  have et6 : wrap64 t5 = t5 := IntWalk.wrap64_in _ (by omega)
  have HET6 := Lib.hid et6
  clear et6
  obtain ⟨G, hG⟩ : ∃ G, G = 1 + t5 := ⟨_, rfl⟩
  have eG : wrap64 (1 + t5) = G := by rw [hG]; exact IntWalk.wrap64_in _ (by omega)
  have HEG := Lib.hid eG
  clear eG
  have HG : Hid (1 ≤ G ∧ G ≤ 255) := ⟨by omega, by omega⟩
  have HX := Lib.hid hx
  have hcap := hx.le
  have hmost := hx.most
  clear ht ht5 hG htb hx
  by_cases h60 : 60 < l.length
  · have hb : decide (60 < (l.length : Int)) = true := by simp; omega
    clear h60 hcap hmost
    go_enter Try.func7, Try.ntmps7
    go_wp2_with (first
      | (go_at_call 42; refine (world12w 2 (by decide) w).mono ?_; rintro e w1 ⟨B, rfl, h1⟩; have H1 := Lib.hid h1; clear h1)
      | (go_at_call 43; refine (lives13 _).mono ?_; rintro e w2 ⟨rfl, b2⟩))
    go_ret
    exact ⟨rfl, H1.out.below.trans (b2.mono H1.out.below.size)⟩
  · have hb : decide (60 < (l.length : Int)) = false := by simp; omega
    go_enter Try.func7, Try.ntmps7
    go_upto_region 5 with (go_at_call 42; refine (world12w 2 (by decide) w).mono ?_; rintro e w1 ⟨B, rfl, h1⟩; have H1 := Lib.hid h1; clear h1)
    have hh0 : HasAt (w1.alloc (.cells #[.bool false, .bool false, .bool false, .bool false] 106)) w1.heap.size (fun _ => false) := heap_alloc_new w1 _
    have hw0 := H1.out.keep (below_alloc w1 (.cells #[.bool false, .bool false, .bool false, .bool false] 106))
    have hp0 : w.heap.size ≤ w1.heap.size := H1.out.below.size
    generalize w1.alloc (.cells #[.bool false, .bool false, .bool false, .bool false] 106) = w2 at *
    generalize w1.heap.size = p at *
    have HH0 := Lib.hid hh0; have HW0 := Lib.hid hw0; have HP0 := Lib.hid hp0; have H60 := Lib.hid (show l.length ≤ 60 by omega)
    clear H1 hh0 hw0 hp0 h60 hb
    go_wp2_with fail
    go_loopw [7] (fun i0 wr => ∃ (i : Nat) (s : CS) (H : Nat → Bool), i ≤ l.length ∧ i0 = .int .i64 i ∧ WS w wr B (v0 ⟨2, 8, 3, 1, 16⟩) s ∧ HasAt wr p H ∧ Inv s H ∧ s.n ≤ 1 + 3 * i ∧ s.cnt ≤ 1 + 3 * i) (fun i0 _ => l.length - (intOf i0).toNat)
    case atStart => exact ⟨0, _, _, by omega, rfl, HW0.out, HH0.out, inv0, by decide, by decide⟩
    case round =>
      clear HW0 HH0
      obtain ⟨i, s, H, hi, rfl, h, hh, hI, hm⟩ := hrel
      by_cases hlt : i < l.length
      · have hlt' : (i : Int) < l.length := by omega
        obtain ⟨bl, off, x, rfl, hxb, hxc⟩ := HX.out.at i hlt
        have hxc := (h.below.cell (World.block_lt_of_cell? _ _ hxc)).trans hxc
        obtain ⟨k, hk⟩ : ∃ k : Nat, x % 4 = k := ⟨(x % 4).toNat, by omega⟩
        have hk4 : k < 4 := by omega
        have hkm : x.tmod 4 = k := by rw [← hk]; exact Int.tmod_eq_emod_of_nonneg hxb.1
        have hkw : wrap64 (k : Int) = k := IntWalk.wrap64_in _ (by omega)
        have HKWR := Lib.hid hkw
        clear hkw hk
        have hi60 := H60.out
        obtain ⟨R, hR⟩ : ∃ R, R = 1 + (i : Int) := ⟨_, rfl⟩
        have eR : wrap64 (1 + (i : Int)) = R := by rw [hR]; exact IntWalk.wrap64_in _ (by omega)
        have HER := Lib.hid eR
        clear eR
        have HR : Hid (1 ≤ R) := show 1 ≤ R by omega
        have HRR : Hid (0 ≤ R ∧ R < 9223372036854775808) := ⟨by omega, by omega⟩
        have HLIM : Hid (1 + 3 * i + 3 < lim) := by unfold lim; show _ < _; omega
        have HK := Lib.hid hk4; have HKW := Lib.hid (wf_small k hk4); have HIW := Lib.hid (wfu_small k hk4)
        have HI := Lib.hid hI; have HM := Lib.hid hm
        have HT0 : Hid (0 ≤ s.val 4136) := (wf_bd (h.own.wf 4136)).1
        have HT1 : Hid (s.val 4136 < 18446744073709551616) := (wf_bd (h.own.wf 4136)).2
        have hspot := fun W => spot21 k hk4 W
        have hhk := hh.cell k hk4
        have hk4' : (k : Int) < 4 := by omega
        have HW := Lib.hid h; have HH := Lib.hid hh
        have hnp : ∀ W : World, Calls Try.prog 46 #[.agg #[.int .i64 2, .int .i64 1, .int .i64 k], .int .i64 G, .int .i64 (1 + (i : Int))] W fun e w' => ∃ q, e = .returned (.pointer (some ⟨q, 0, none⟩)) ∧ SlotAt w' q 186 ⟨4136, 4137 + k, k, 0, 0⟩ [.int .i64 G, .int .i64 R] ∧ W.heap.size ≤ q ∧ Below W.heap.size W w' := fun W => by
          have := newput_in 2 1 k G R HKW.out HG.out HR.out W
          rw [sof21 k HK.out] at this
          rw [← hR]
          exact this
        have hno := fun W => newout_any 2 1 k HKW.out W
        rw [sof21 k hk4] at hno
        clear h hh hI hm hR hk4 hxb
        have hkw := HKWR.out
        go_upto_region 10 with (go_at_call 44; with_reducible refine (hspot _).mono ?_; rintro e w3 ⟨rfl, b3⟩; have H3 := Lib.hid (HW.out.keep b3); have HH3 := Lib.hid (HH.out.below b3); clear b3 hspot hhk)
        clear hkw hkm
        have hq0 : SpotAt (w3.alloc (.cells #[.int .i64 2, .int .i64 1, .int .i64 k] 55)) w3.heap.size k := heap_alloc_new w3 _
        have hb3 := below_alloc w3 (.cells #[.int .i64 2, .int .i64 1, .int .i64 k] 55)
        have H4 := Lib.hid (H3.out.keep hb3); have HH4 := Lib.hid (HH3.out.below hb3)
        have HPQ : Hid (p ≠ w3.heap.size ∧ w.heap.size ≤ w3.heap.size) := ⟨Nat.ne_of_lt (Array.getElem?_eq_some_iff.1 HH3.out).1, H3.out.below.size⟩
        generalize w3.alloc (.cells #[.int .i64 2, .int .i64 1, .int .i64 k] 55) = w4 at *
        generalize w3.heap.size = q at *
        have HQ4 := Lib.hid hq0
        have x0 := fun st : ExtW w4 => st.cell H4.out.c0
        have x1 := fun st : ExtW w4 => st.cell (spot3 _ _ _ _ _ _ HQ4.out).1
        have x2 := fun st : ExtW w4 => st.cell (spot3 _ _ _ _ _ _ HQ4.out).2.1
        have hp1 := fun st => H4.out.peekx 4136 (by decide) st
        have htags := fun {W : World} (st : ExtW W) => tags_any 2 1 st.val
        rw [tag21] at htags
        clear hq0 hb3 H3 HH3 HW HH
        refine wp_region_ext (by kernel_rfl) (by kernel_rfl) ?_
        repeat (go_big_quiet_step (first
          | (go_at_call 45; with_reducible refine calls_ext (htags _))
          | (go_at_call 27; with_reducible refine calls_ext_same (hp1 _))))
        refine wpQuiet_nil ?_
        rintro W5 ⟨⟨W6, hW⟩, rfl⟩
        have H5 := Lib.hid (H4.out.keep hW); have HH5 := Lib.hid (HH4.out.below hW); have HQ5 := Lib.hid (HQ4.out.below hW)
        obtain ⟨c1, c2, c3⟩ := spot3 _ _ _ _ _ _ HQ5.out
        have hhk := HH5.out.cell k HK.out
        clear x0 x1 x2 hp1 htags hW H4 HH4 HQ4
        have eG := HEG.out; have eR := HER.out; have et6 := HET6.out
        cases hHk : H k
        · rw [hHk] at hhk
          clear hno
          go_wp2_with fail
          go_at_call 46
          with_reducible refine (hnp _).mono ?_
          rintro e w7 ⟨b, rfl, p7, l7, b7⟩
          have hh7 := HH5.out.below b7
          have hhk7 := hh7.cell k HK.out
          rw [hHk] at hhk7
          have hhf := hfrz hh7
          have H7 := Lib.hid (H5.out.keep b7)
          have HH7 := Lib.hid hh7
          have HQ7 := Lib.hid (HQ5.out.below b7)
          have HPB := Lib.hid (show p ≠ b from Nat.ne_of_lt (Nat.lt_of_lt_of_le (Array.getElem?_eq_some_iff.1 HH5.out).1 l7))
          have HQB := Lib.hid (show q ≠ b from Nat.ne_of_lt (Nat.lt_of_lt_of_le (Array.getElem?_eq_some_iff.1 HQ5.out).1 l7))
          have HLB := Lib.hid (show w.heap.size ≤ b from Nat.le_trans H5.out.below.size l7)
          have S7 := Lib.hid p7
          clear p7 l7 b7 hh7 hhk c1 c2 c3
          go_upto_region 15 with (fail)
          have w5 := set_take (o := k) H7.out HH7.out rfl HP0.out (.bool true)
          have hh5 := HH7.out.set k HK.out true
          have q5 : SpotAt (w7.setCell ⟨p, k, none⟩ (.bool true)) q k := (Below.heap_setCell _ _ _ _ HPQ.out.1.symm).trans HQ7.out
          have s5 : SlotAt (w7.setCell ⟨p, k, none⟩ (.bool true)) b 186 (psl s 4136 (4137 + k) k R 0) [.int .i64 G, .int .i64 R] := (Below.heap_setCell _ _ _ _ HPB.out.symm).trans S7.out
          have w5 : WS w (w7.setCell ⟨p, k, none⟩ (.bool true)) B (v0 ⟨2, 8, 3, 1, 16⟩) (pst s 4136 (4137 + k) k G R 0) := w5
          clear hhk7 hhf H7 HH7 HQ7 S7 hnp eG eR et6
          generalize w7.setCell ⟨p, k, none⟩ (.bool true) = w8 at *
          have HQ5 := Lib.hid q5; have HH5 := Lib.hid hh5; have HW5 := Lib.hid w5; have HS5 := Lib.hid s5
          clear q5 hh5 w5 s5
          go_wp2_with fail
          go_loopw [12] (fun i5 wr5 => ∃ n : Nat, n ≤ 3 ∧ i5 = .int .i64 n ∧ WS w wr5 B (v0 ⟨2, 8, 3, 1, 16⟩) (pst s 4136 (4137 + k) k G R n) ∧ SlotAt wr5 b 186 (psl s 4136 (4137 + k) k R n) [.int .i64 G, .int .i64 R] ∧ HasAt wr5 p (fun j => if j = k then true else H j) ∧ SpotAt wr5 q k) (fun i5 _ => 3 - (intOf i5).toNat)
          case atStart => exact ⟨0, by omega, rfl, HW5.out, HS5.out, HH5.out, HQ5.out⟩
          case round =>
            clear HW5 HS5 HH5 HQ5
            obtain ⟨n, hn, rfl, h, hS, hh, hq⟩ := hrel
            by_cases hlt : n < 3
            · have hlt' : (n : Int) < 3 := by omega
              have hstep := put_step (m := 1 + 3 * i) HM.out HLIM.out HLB.out (by decide) (by decide) HIW.out HRR.out n hlt h (hS)
              have HH := Lib.hid hh; have HQ := Lib.hid hq
              clear h hS hh hq
              go_wp2_with fail
              go_at_call 190
              with_reducible refine hstep.mono ?_
              rintro e w6 ⟨⟨o, rfl⟩, h6, s6, f6⟩
              have hh6 := f6.cells _ _ _ _ HH.out rfl HPB.out
              have hq6 := f6.cells _ _ _ _ HQ.out rfl HQB.out
              have H6 := Lib.hid h6
              have S6 := Lib.hid s6
              have HH6 : Hid (HasAt w6 p (fun j => if j = k then true else H j)) := hh6
              have HQ6 : Hid (SpotAt w6 q k) := hq6
              clear h6 s6 f6 hh6 hq6 hstep
              go_wp2_with fail
              clear HH HQ
              have hgood : Good (pst s 4136 (4137 + k) k G R (n + 1)) := pst_good HI.out k HK.out G R HG.out HR.out HT0.out (n + 1) (by omega)
              have HGO := Lib.hid hgood
              clear hgood
              go_loopw [13] (fun j5 wr6 => ∃ j : Nat, j ≤ 4 ∧ j5 = .int .i64 j ∧ WS w wr6 B (v0 ⟨2, 8, 3, 1, 16⟩) (pst s 4136 (4137 + k) k G R (n + 1)) ∧ SlotAt wr6 b 186 (psl s 4136 (4137 + k) k R (n + 1)) [.int .i64 G, .int .i64 R] ∧ HasAt wr6 p (fun j => if j = k then true else H j) ∧ SpotAt wr6 q k) (fun j5 _ => 4 - (intOf j5).toNat)
              case atStart => exact ⟨0, by omega, rfl, H6.out, S6.out, HH6.out, HQ6.out⟩
              case round =>
                clear H6 S6 HH6 HQ6
                obtain ⟨j, hj, rfl, h, hS, hh, hq⟩ := hrel
                by_cases hlt2 : j < 4
                · have hlt2' : (j : Int) < 4 := by omega
                  have hspot := fun W => spot21 j hlt2 W
                  have hslot := fun (W : World) (hb : Below wr.heap.size wr W) => slot_any (h.keep hb) 2 1 j (wf_small j hlt2)
                  rw [tag21, item21 j hlt2, tagOf_nat _ j hlt2] at hslot
                  have hgj := HGO.out j hlt2
                  generalize tg (CS.val (pst s 4136 (4137 + k) k G R (n + 1)) 4136) j = tj at *
                  generalize CS.val (pst s 4136 (4137 + k) k G R (n + 1)) (4137 + j) = ij at *
                  have H7 := Lib.hid h; have S7 := Lib.hid hS; have HH7 := Lib.hid hh; have HQ7 := Lib.hid hq
                  clear h hS hh hq
                  cases htj : (tj != 0)
                  · clear hgj
                    go_wp2_with (first
                      | (go_at_call 44; with_reducible refine (hspot _).mono ?_; rintro e w8 ⟨rfl, b8⟩; have B8 := Lib.hid b8; have hsl := hslot _ b8; clear b8)
                      | (go_at_call 48; with_reducible refine hsl.mono ?_; rintro e w9 ⟨rfl, b9⟩; have B9 := Lib.hid (B8.out.trans (b9.mono B8.out.size)); clear b9))
                    exact ⟨⟨j + 1, by omega, by go_num, H7.out.keep B9.out, S7.out.below B9.out, HH7.out.below B9.out, HQ7.out.below B9.out⟩, by simp [intOf]; omega⟩
                  · have hij : (ij == 0) = false := beq_eq_false_iff_ne.2 (hgj (bne_iff_ne.1 htj))
                    clear hgj
                    go_wp2_with (first
                      | (go_at_call 44; with_reducible refine (hspot _).mono ?_; rintro e w8 ⟨rfl, b8⟩; have B8 := Lib.hid b8; have hsl := hslot _ b8; clear b8)
                      | (go_at_call 48; with_reducible refine hsl.mono ?_; rintro e w9 ⟨rfl, b9⟩; have B9 := Lib.hid (B8.out.trans (b9.mono B8.out.size)); clear b9))
                    exact ⟨⟨j + 1, by omega, by go_num, H7.out.keep B9.out, S7.out.below B9.out, HH7.out.below B9.out, HQ7.out.below B9.out⟩, by simp [intOf]; omega⟩
                · obtain rfl : j = 4 := by omega
                  have H7 := Lib.hid h; have S7 := Lib.hid hS; have HH7 := Lib.hid hh; have HQ7 := Lib.hid hq
                  clear h hS hh hq
                  go_wp2_with fail
                  exact ⟨⟨n + 1, by omega, by go_num, H7.out, S7.out, HH7.out, HQ7.out⟩, by simp [intOf]; omega⟩
            · obtain rfl : n = 3 := by omega
              have hwq := spot3 _ _ _ _ _ _ hq
              have hsl := slot_any h 2 1 k HKW.out
              rw [tag21, item21 k HK.out, tagOf_nat _ k HK.out] at hsl
              obtain ⟨c1, c2, c3⟩ := hwq
              have H7 := Lib.hid h; have S7 := Lib.hid hS; have HH7 := Lib.hid hh; have HQ7 := Lib.hid hq
              clear h hS hh hq
              go_upto_region 26 with (go_at_call 48; with_reducible refine hsl.mono ?_; rintro e w9 ⟨rfl, b9⟩; have H9 := Lib.hid (H7.out.keep b9); have S9 := Lib.hid (S7.out.below b9); have HH9 := Lib.hid (HH7.out.below b9); have HQ9 := Lib.hid (HQ7.out.below b9); clear b9 hsl)
              clear c1 c2 c3 H7 S7 HH7 HQ7
              have hinv := pst_inv HI.out k HK.out G R HG.out HR.out HT0.out
              have hhk : (if k = k then true else H k) = (tg (CS.val (pst s 4136 (4137 + k) k G R 3) 4136) k != 0) := hinv.1 k HK.out
              rw [if_pos rfl] at hhk
              have hov : ∀ st : ExtW w9, Calls Try.prog 189 #[.pointer (some ⟨b, 0, none⟩)] st.val fun e w' => e = .returned (.bool true) ∧ Below st.val.heap.size st.val w' := fun st => put_over 3 (by omega) (by decide) (S9.out.below st.below)
              have hmo : ∀ (n : Nat) (W : World), (Go.method (n + 1) 109 (.pointer (some ⟨b, 0, none⟩)) "Over").run Try.prog W = .ok (189, .pointer (some ⟨b, 0, none⟩)) W := fun n W => by kernel_rfl
              have hp1 := fun st => H9.out.peekx 4136 (by decide) st
              have hwf1 := wf_bd (H9.out.own.wf 4136)
              have hto := fun {W : World} (st : ExtW W) => tag_any (s.val 4136) k st.val HT0.out HT1.out
              have hwi := fun {W : World} (st : ExtW W) => with_any (CS.val (pst s 4136 (4137 + k) k G R 3) 4136) k (tagOf (s.val 4136) k) st.val hwf1.1 hwf1.2
              rw [pst_back (s := s) k HK.out G R HG.out HT0.out] at hwi
              have htags := fun {W : World} (st : ExtW W) => tags_any 2 1 st.val
              rw [tag21] at htags
              have hkc : w9.cell? ⟨p, k, none⟩ = some (.bool true) := by
                have := HH9.out.cell k HK.out
                rw [if_pos rfl] at this; exact this
              have xk := fun st : ExtW w9 => st.cell hkc
              have x0 := fun st : ExtW w9 => st.cell H9.out.c0
              have x1 := fun st : ExtW w9 => st.cell (spot3 _ _ _ _ _ _ HQ9.out).1
              have x2 := fun st : ExtW w9 => st.cell (spot3 _ _ _ _ _ _ HQ9.out).2.1
              have hle := pst_le (tgA := 4136) (it := 4137 + k) (at_ := k) (g := G) (r := R) HM.out 3 (by omega)
              generalize tg (CS.val (pst s 4136 (4137 + k) k G R 3) 4136) k = tk3 at *
              generalize CS.val (pst s 4136 (4137 + k) k G R 3) 4136 = W3 at *
              generalize tagOf (s.val 4136) k = tk0 at *
              generalize s.val 4136 = W0 at *
              have HINV := Lib.hid hinv; have HLE := Lib.hid hle
              replace hhk := hhk.symm
              have hk4 : (k : Int) < 4 := by have := HK.out; omega
              clear hinv hkc hwf1 hle
              refine wp_region_ext (by kernel_rfl) (by kernel_rfl) ?_
              repeat (go_big_quiet_step (first
                | (go_at_call 189; with_reducible refine calls_ext (hov _))
                | (go_at_call 45; with_reducible refine calls_ext (htags _))
                | (go_at_call 27; with_reducible refine calls_ext_same (hp1 _))
                | (go_at_call 50; with_reducible refine calls_ext (hto _))
                | (go_at_call 49; with_reducible refine calls_ext (hwi _))))
              refine wpQuiet_nil ?_
              rintro W12 ⟨⟨W11, hW11⟩, rfl⟩
              clear x0 x1 x2 xk
              go_wp2_with fail
              go_roundw
              case rel => exact ⟨i + 1, _, _, by omega, by go_num, H9.out.keep hW11, HH9.out.below hW11, HINV.out, by have := HLE.out; omega⟩
              case measure => simp [intOf]; omega
        · rw [hHk] at hhk
          go_wp2_with fail
          go_at_call 46
          with_reducible refine (hnp _).mono ?_
          rintro e w6 ⟨b0, rfl, p6, l6, b6⟩
          have H6 := Lib.hid (H5.out.keep b6)
          have HH6 := Lib.hid (HH5.out.below b6)
          have HQ6 := Lib.hid (HQ5.out.below b6)
          clear p6 l6 b6 hhk c1 c2 c3 hnp
          obtain ⟨c1, c2, c3⟩ := spot3 _ _ _ _ _ _ HQ6.out
          have hhk := HH6.out.cell k HK.out
          rw [hHk] at hhk
          go_wp2_with fail
          go_at_call 47
          with_reducible refine (hno _).mono ?_
          rintro e w7 ⟨b, rfl, p7, l7, b7⟩
          have hh7 := HH6.out.below b7
          have hhk7 := hh7.cell k HK.out
          rw [hHk] at hhk7
          have hhf := hfrz hh7
          have H7 := Lib.hid (H6.out.keep b7)
          have HH7 := Lib.hid hh7
          have HQ7 := Lib.hid (HQ6.out.below b7)
          have HPB := Lib.hid (show p ≠ b from Nat.ne_of_lt (Nat.lt_of_lt_of_le (Array.getElem?_eq_some_iff.1 HH6.out).1 l7))
          have HQB := Lib.hid (show q ≠ b from Nat.ne_of_lt (Nat.lt_of_lt_of_le (Array.getElem?_eq_some_iff.1 HQ6.out).1 l7))
          have HLB := Lib.hid (show w.heap.size ≤ b from Nat.le_trans H6.out.below.size l7)
          have S7 := Lib.hid p7
          clear p7 l7 b7 hh7 hhk c1 c2 c3 H6 HH6 HQ6
          go_upto_region 15 with (fail)
          have w5 := set_take (o := k) H7.out HH7.out rfl HP0.out (.bool false)
          have hh5 := HH7.out.set k HK.out false
          have q5 : SpotAt (w7.setCell ⟨p, k, none⟩ (.bool false)) q k := (Below.heap_setCell _ _ _ _ HPQ.out.1.symm).trans HQ7.out
          have s5 : SlotAt (w7.setCell ⟨p, k, none⟩ (.bool false)) b 189 (osl s 4136 (4137 + k) k 0) [] := (Below.heap_setCell _ _ _ _ HPB.out.symm).trans S7.out
          have w5 : WS w (w7.setCell ⟨p, k, none⟩ (.bool false)) B (v0 ⟨2, 8, 3, 1, 16⟩) (ost s 4136 (4137 + k) k 0) := w5
          clear hhk7 hhf H7 HH7 HQ7 S7 hno eG eR et6
          generalize w7.setCell ⟨p, k, none⟩ (.bool false) = w8 at *
          have HQ5 := Lib.hid q5; have HH5 := Lib.hid hh5; have HW5 := Lib.hid w5; have HS5 := Lib.hid s5
          clear q5 hh5 w5 s5
          go_wp2_with fail
          go_loopw [12] (fun i5 wr5 => ∃ n : Nat, n ≤ 3 ∧ i5 = .int .i64 n ∧ WS w wr5 B (v0 ⟨2, 8, 3, 1, 16⟩) (ost s 4136 (4137 + k) k n) ∧ SlotAt wr5 b 189 (osl s 4136 (4137 + k) k n) [] ∧ HasAt wr5 p (fun j => if j = k then false else H j) ∧ SpotAt wr5 q k) (fun i5 _ => 3 - (intOf i5).toNat)
          case atStart => exact ⟨0, by omega, rfl, HW5.out, HS5.out, HH5.out, HQ5.out⟩
          case round =>
            clear HW5 HS5 HH5 HQ5
            obtain ⟨n, hn, rfl, h, hS, hh, hq⟩ := hrel
            by_cases hlt : n < 3
            · have hlt' : (n : Int) < 3 := by omega
              have hstep := out_step (m := 1 + 3 * i) HM.out HLIM.out HLB.out (by decide) (by decide) HIW.out n hlt h (hS)
              have HH := Lib.hid hh; have HQ := Lib.hid hq
              clear h hS hh hq
              go_wp2_with fail
              go_at_call 90
              with_reducible refine hstep.mono ?_
              rintro e w6 ⟨⟨o, rfl⟩, h6, s6, f6⟩
              have hh6 := f6.cells _ _ _ _ HH.out rfl HPB.out
              have hq6 := f6.cells _ _ _ _ HQ.out rfl HQB.out
              have H6 := Lib.hid h6
              have S6 := Lib.hid s6
              have HH6 : Hid (HasAt w6 p (fun j => if j = k then false else H j)) := hh6
              have HQ6 : Hid (SpotAt w6 q k) := hq6
              clear h6 s6 f6 hh6 hq6 hstep
              go_wp2_with fail
              clear HH HQ
              have hgood : Good (ost s 4136 (4137 + k) k (n + 1)) := ost_good HI.out k HK.out HT0.out (n + 1) (by omega)
              have HGO := Lib.hid hgood
              clear hgood
              go_loopw [13] (fun j5 wr6 => ∃ j : Nat, j ≤ 4 ∧ j5 = .int .i64 j ∧ WS w wr6 B (v0 ⟨2, 8, 3, 1, 16⟩) (ost s 4136 (4137 + k) k (n + 1)) ∧ SlotAt wr6 b 189 (osl s 4136 (4137 + k) k (n + 1)) [] ∧ HasAt wr6 p (fun j => if j = k then false else H j) ∧ SpotAt wr6 q k) (fun j5 _ => 4 - (intOf j5).toNat)
              case atStart => exact ⟨0, by omega, rfl, H6.out, S6.out, HH6.out, HQ6.out⟩
              case round =>
                clear H6 S6 HH6 HQ6
                obtain ⟨j, hj, rfl, h, hS, hh, hq⟩ := hrel
                by_cases hlt2 : j < 4
                · have hlt2' : (j : Int) < 4 := by omega
                  have hspot := fun W => spot21 j hlt2 W
                  have hslot := fun (W : World) (hb : Below wr.heap.size wr W) => slot_any (h.keep hb) 2 1 j (wf_small j hlt2)
                  rw [tag21, item21 j hlt2, tagOf_nat _ j hlt2] at hslot
                  have hgj := HGO.out j hlt2
                  generalize tg (CS.val (ost s 4136 (4137 + k) k (n + 1)) 4136) j = tj at *
                  generalize CS.val (ost s 4136 (4137 + k) k (n + 1)) (4137 + j) = ij at *
                  have H7 := Lib.hid h; have S7 := Lib.hid hS; have HH7 := Lib.hid hh; have HQ7 := Lib.hid hq
                  clear h hS hh hq
                  cases htj : (tj != 0)
                  · clear hgj
                    go_wp2_with (first
                      | (go_at_call 44; with_reducible refine (hspot _).mono ?_; rintro e w8 ⟨rfl, b8⟩; have B8 := Lib.hid b8; have hsl := hslot _ b8; clear b8)
                      | (go_at_call 48; with_reducible refine hsl.mono ?_; rintro e w9 ⟨rfl, b9⟩; have B9 := Lib.hid (B8.out.trans (b9.mono B8.out.size)); clear b9))
                    exact ⟨⟨j + 1, by omega, by go_num, H7.out.keep B9.out, S7.out.below B9.out, HH7.out.below B9.out, HQ7.out.below B9.out⟩, by simp [intOf]; omega⟩
                  · have hij : (ij == 0) = false := beq_eq_false_iff_ne.2 (hgj (bne_iff_ne.1 htj))
                    clear hgj
                    go_wp2_with (first
                      | (go_at_call 44; with_reducible refine (hspot _).mono ?_; rintro e w8 ⟨rfl, b8⟩; have B8 := Lib.hid b8; have hsl := hslot _ b8; clear b8)
                      | (go_at_call 48; with_reducible refine hsl.mono ?_; rintro e w9 ⟨rfl, b9⟩; have B9 := Lib.hid (B8.out.trans (b9.mono B8.out.size)); clear b9))
                    exact ⟨⟨j + 1, by omega, by go_num, H7.out.keep B9.out, S7.out.below B9.out, HH7.out.below B9.out, HQ7.out.below B9.out⟩, by simp [intOf]; omega⟩
                · obtain rfl : j = 4 := by omega
                  have H7 := Lib.hid h; have S7 := Lib.hid hS; have HH7 := Lib.hid hh; have HQ7 := Lib.hid hq
                  clear h hS hh hq
                  go_wp2_with fail
                  exact ⟨⟨n + 1, by omega, by go_num, H7.out, S7.out, HH7.out, HQ7.out⟩, by simp [intOf]; omega⟩
            · obtain rfl : n = 3 := by omega
              have hwq := spot3 _ _ _ _ _ _ hq
              have hsl := slot_any h 2 1 k HKW.out
              rw [tag21, item21 k HK.out, tagOf_nat _ k HK.out] at hsl
              obtain ⟨c1, c2, c3⟩ := hwq
              have H7 := Lib.hid h; have S7 := Lib.hid hS; have HH7 := Lib.hid hh; have HQ7 := Lib.hid hq
              clear h hS hh hq
              go_upto_region 26 with (go_at_call 48; with_reducible refine hsl.mono ?_; rintro e w9 ⟨rfl, b9⟩; have H9 := Lib.hid (H7.out.keep b9); have S9 := Lib.hid (S7.out.below b9); have HH9 := Lib.hid (HH7.out.below b9); have HQ9 := Lib.hid (HQ7.out.below b9); clear b9 hsl)
              clear c1 c2 c3 H7 S7 HH7 HQ7
              have hinv := ost_inv HI.out k HK.out HT0.out
              have hhk : (if k = k then false else H k) = (tg (CS.val (ost s 4136 (4137 + k) k 3) 4136) k != 0) := hinv.1 k HK.out
              rw [if_pos rfl] at hhk
              have hov : ∀ st : ExtW w9, Calls Try.prog 125 #[.pointer (some ⟨b, 0, none⟩)] st.val fun e w' => e = .returned (.bool true) ∧ Below st.val.heap.size st.val w' := fun st => out_over 3 (by omega) (by decide) (S9.out.below st.below)
              have hmo : ∀ (n : Nat) (W : World), (Go.method (n + 1) 113 (.pointer (some ⟨b, 0, none⟩)) "Over").run Try.prog W = .ok (125, .pointer (some ⟨b, 0, none⟩)) W := fun n W => by kernel_rfl
              have hp1 := fun st => H9.out.peekx 4136 (by decide) st
              have hwf1 := wf_bd (H9.out.own.wf 4136)
              have hto := fun {W : World} (st : ExtW W) => tag_any (s.val 4136) k st.val HT0.out HT1.out
              have hwi := fun {W : World} (st : ExtW W) => with_any (CS.val (ost s 4136 (4137 + k) k 3) 4136) k (tagOf (s.val 4136) k) st.val hwf1.1 hwf1.2
              rw [ost_back (s := s) k HK.out HT0.out] at hwi
              have htags := fun {W : World} (st : ExtW W) => tags_any 2 1 st.val
              rw [tag21] at htags
              have hkc : w9.cell? ⟨p, k, none⟩ = some (.bool false) := by
                have := HH9.out.cell k HK.out
                rw [if_pos rfl] at this; exact this
              have xk := fun st : ExtW w9 => st.cell hkc
              have x0 := fun st : ExtW w9 => st.cell H9.out.c0
              have x1 := fun st : ExtW w9 => st.cell (spot3 _ _ _ _ _ _ HQ9.out).1
              have x2 := fun st : ExtW w9 => st.cell (spot3 _ _ _ _ _ _ HQ9.out).2.1
              have hle := ost_le (tgA := 4136) (it := 4137 + k) (at_ := k) HM.out 3 (by omega)
              generalize tg (CS.val (ost s 4136 (4137 + k) k 3) 4136) k = tk3 at *
              generalize CS.val (ost s 4136 (4137 + k) k 3) 4136 = W3 at *
              generalize tagOf (s.val 4136) k = tk0 at *
              generalize s.val 4136 = W0 at *
              have HINV := Lib.hid hinv; have HLE := Lib.hid hle
              replace hhk := hhk.symm
              have hk4 : (k : Int) < 4 := by have := HK.out; omega
              clear hinv hkc hwf1 hle
              refine wp_region_ext (by kernel_rfl) (by kernel_rfl) ?_
              repeat (go_big_quiet_step (first
                | (go_at_call 125; with_reducible refine calls_ext (hov _))
                | (go_at_call 45; with_reducible refine calls_ext (htags _))
                | (go_at_call 27; with_reducible refine calls_ext_same (hp1 _))
                | (go_at_call 50; with_reducible refine calls_ext (hto _))
                | (go_at_call 49; with_reducible refine calls_ext (hwi _))))
              refine wpQuiet_nil ?_
              rintro W12 ⟨⟨W11, hW11⟩, rfl⟩
              clear x0 x1 x2 xk
              go_wp2_with fail
              go_roundw
              case rel => exact ⟨i + 1, _, _, by omega, by go_num, H9.out.keep hW11, HH9.out.below hW11, HINV.out, by have := HLE.out; omega⟩
              case measure => simp [intOf]; omega
      · obtain rfl : i = l.length := by omega
        have HW := Lib.hid h
        clear h hh hI hm
        go_wp2_with (go_at_call 43; refine (lives13 _).mono ?_; rintro e w2 ⟨rfl, b2⟩)
        go_ret
        exact ⟨rfl, HW.out.below.trans (b2.mono HW.out.below.size)⟩
set_option maxRecDepth 10000 in
theorem walkPutsNever {H : Type} (w : World) (enc : TypeId × Value → H) (base : Nat) (v : Value) (d : DataW H) (p : List MemPlace) (k : DataW.Trod enc Try.prog w 0 (fun _ => true) true 83 v d p) (o : Value.okWide Try.prog w .any base 83 v) (t : Int) (ht : (Lit.int .u8 t).wf = true) :
    Calls Try.prog 7 #[v, .int .u8 t] w fun e w' => e = .returned (.bool true) ∧ Below w.heap.size w w' := by
  obtain ⟨a0, n0, cap0, rfl⟩ := Go.WideShapes.okWide_slice Try.underlying83 o
  obtain ⟨l, a, cap, hv, hl⟩ := byb_of (opened leaves_byb k).1
  rw [hv]
  exact never_any l a cap w hl t ht
end Go.Proofs.Yteofdldlmmkgbaa
