/-
  The walk of TicketsWaits.
-/
import Derived.Test.YtpceooniklpidaaTicketsDo
namespace Go.Proofs.Ytpceooniklpidaa
open Go.RowKit
set_option linter.unusedVariables false

theorem wu_add (x : Int) : wu (wu x + 1) = wu (x + 1) := by simp only [wu_eq]; omega
theorem wu_in {x : Int} (h : 0 ≤ x ∧ x < 18446744073709551616) : wu x = x := by rw [wu_eq]; omega
theorem wu_ne (F : Int) (k n : Nat) (hk : k < n) (hn : n ≤ 30) : wu (F + k) ≠ wu (F + n) := by simp only [wu_eq]; omega
theorem wu_pred {T : Int} (hT : 0 ≤ T ∧ T < 18446744073709551616) (hz : wu (T + 1) ≠ 0) : IntKind.u64.wrap (wu (T + 1) - 1) = T := by
  rw [IntKind.wrap_u64]; rw [wu_eq] at *; omega
theorem wu_last {T : Int} (hT : 0 ≤ T ∧ T < 18446744073709551616) (hz : wu (T + 1) = 0) : (T == 18446744073709551615) = true := by
  rw [wu_eq] at hz; rw [beq_iff_eq]; omega
theorem field_acc (k a x y : Int) (W : World) : (Instr.field 91 (.agg #[.int .u8 k, .int .u64 a, .int .u64 x, .int .u64 y]) 0).run Try.prog W = .ok (.int .u8 k) W := by kernel_rfl
theorem wu_bd (x : Int) : 0 ≤ wu x ∧ wu x < 18446744073709551616 := by rw [wu_eq]; omega

set_option maxRecDepth 10000 in
set_option maxHeartbeats 4000000 in
theorem walkTicketsWaits (w : World) (a : Int) (ha : (Lit.int .u8 a).wf = true) (F : Int) (hF : (Lit.int .u64 F).wf = true) :
    Calls Try.prog 6 #[.int .u8 a, .int .u64 F] w fun e w' => e = .returned (.bool true) ∧ Below w.heap.size w w' := by
  have hab : 0 ≤ a ∧ a < 256 := by
    have hmin : IntKind.u8.min = 0 := rfl
    have hmax : IntKind.u8.max = 255 := rfl
    simp only [Lit.wf, Bool.and_eq_true, decide_eq_true_eq] at ha; omega
  obtain ⟨n, hn⟩ : ∃ n : Nat, a % 31 = n := ⟨(a % 31).toNat, by omega⟩
  have hn30 : n ≤ 30 := by omega
  have HF := Lib.hid hF
  have HFB := Lib.hid (wf_bd hF)
  have hnw : IntKind.u64.wrap (n : Int) = n := by rw [IntKind.wrap_u64]; omega
  clear ha hF
  go_enter Try.func6, Try.ntmps6
  go_upto_region 5 with (first
    | (go_at_call 11; refine (begin11 w).mono ?_; rintro e w1 ⟨B, rfl, h1⟩; have h1 := TW.new 40 (by decide) h1; have c0 := h1.c0; have H1 := Lib.hid h1; clear h1)
    | (go_at_call 33; ((with_reducible refine (H1.out.store (by decide) 0 F (.inl rfl) HF.out).mono ?_); rintro e w2 ⟨⟨o, rfl⟩, h2⟩; simp only [if_pos, if_neg (show ¬ (0 : Int) = 1 by decide)] at h2; clear c0; have c0 := h2.c0; have H2 := Lib.hid h2; clear h2))
    | (go_at_call 33; ((with_reducible refine (H2.out.store (by decide) 1 F (.inr rfl) HF.out).mono ?_); rintro e w3 ⟨⟨o, rfl⟩, h3⟩; simp only [if_pos, if_neg (show ¬ (1 : Int) = 0 by decide)] at h3; clear c0; have H3 := Lib.hid h3; clear h3)))
  have H30 : Hid (TW w w3 B 40 (wu (F + (0 : Nat))) F 0 (-1) (2 + 0) 2) := by
    have e : wu (F + (0 : Nat)) = F := by rw [show F + ((0 : Nat) : Int) = F by omega]; exact wu_in HFB.out
    rw [e]; exact H3.out
  clear H1 H2 H3
  go_wp2_with fail
  go_loopw [7] (fun i wr => ∃ (k : Nat) (kd : Int), k ≤ n ∧ i = .int .i64 k ∧ TW w wr B 40 (wu (F + k)) F 0 (-1) (2 + k) kd) (fun i _ => n - (intOf i).toNat)
  case atStart => exact ⟨0, 2, by omega, rfl, H30.out⟩
  case round =>
    clear H30
    obtain ⟨k, kd, hk, rfl, h⟩ := hrel
    by_cases hlt : k < n
    · have hlt' : (k : Int) < n := by omega
      have H := Lib.hid h
      have hs := h.below.size
      have hk64 : k < 64 := by omega
      have hk40 : k ≠ 40 := by omega
      clear h
      go_wp2_with (first
        | (go_at_call 19; refine (newtake_in k hk64 _).mono ?_; rintro e w4 ⟨rfl, t4, b4⟩; have H4 := Lib.hid (H.out.keep b4); have T4 := Lib.hid t4; clear t4 b4)
        | (go_at_call 20; refine (H4.out.draw hs hk64 (by omega) T4.out hk40).mono ?_; rw [wu_add]; rintro e w5 ⟨rfl, h5, t5, f5⟩; have H5 := Lib.hid h5; clear h5 t5 f5))
      go_roundw
      case rel => exact ⟨k + 1, 4, by omega, by go_num, by have := H5.out; rw [show F + (k : Int) + 1 = F + ((k + 1 : Nat) : Int) by omega] at this; exact this⟩
      case measure => simp [intOf]; omega
    · obtain rfl : k = n := by omega
      obtain ⟨T, hT⟩ : ∃ T, T = wu (F + k) := ⟨_, rfl⟩
      have hTb : 0 ≤ T ∧ T < 18446744073709551616 := by rw [hT]; exact wu_bd _
      have eT : IntKind.u64.wrap (F + (k : Int)) = T := hT.symm
      rw [← hT] at h
      obtain ⟨V, hV⟩ : ∃ V, V = wu (T + 1) := ⟨_, rfl⟩
      have H := Lib.hid h; have HTB := Lib.hid hTb; have HT := Lib.hid hT; have HV := Lib.hid hV
      have hs := h.below.size
      clear h hTb hT hV hlt
      go_upto_region 14 with (first
        | (go_at_call 19; refine (newtake_in 40 (by decide) _).mono ?_; rintro e w4 ⟨rfl, t4, b4⟩; have H4 := Lib.hid (H.out.keep b4); have T4 := Lib.hid t4; clear t4 b4)
        | (go_at_call 20; refine (H4.out.drawq hs (by decide) (by omega) T4.out rfl).mono ?_; rw [← show V = wu (T + 1) from HV.out]; rintro e w5 ⟨rfl, h5, t5, f5⟩; have H5 := Lib.hid h5; have T5 := Lib.hid t5; clear h5 t5 f5)
        | (go_at_call 21; refine (got_any T5.out).mono ?_; rintro e w6 ⟨rfl, b6⟩; have h6 := H5.out.keep b6; have c8 := h6.cq (by decide); have H6 := Lib.hid h6; have T6 := Lib.hid (T5.out.below b6); clear h6 b6))
      clear H H4 T4 H5 T5
      by_cases hz : V = 0
      · have hb : (T == 18446744073709551615) = true := wu_last HTB.out (by rw [← show V = wu (T + 1) from HV.out]; exact hz)
        subst hz
        clear HV HT
        go_wp2_with (go_at_call 10; refine (lives11 _).mono ?_; rintro e w7 ⟨rfl, b7⟩)
        go_ret
        exact ⟨rfl, H6.out.below.trans (b7.mono H6.out.below.size)⟩
      · have hzb : (V == 0) = false := beq_eq_false_iff_ne.2 hz
        have hzb2 : (V != 0) = true := bne_iff_ne.2 hz
        have hpr : IntKind.u64.wrap (V - 1) = T := by rw [show V = wu (T + 1) from HV.out]; exact wu_pred HTB.out (by rw [← show V = wu (T + 1) from HV.out]; exact hz)
        have HPR := Lib.hid hpr
        have H60 : Hid (TW w w6 B 40 V (wu (F + (0 : Nat))) V (-1) (2 + k + 1 + 2 * 0) 4) := by
          have e : wu (F + (0 : Nat)) = F := by rw [show F + ((0 : Nat) : Int) = F by omega]; exact wu_in HFB.out
          rw [e]; exact H6.out
        clear hz hpr H6
        go_wp2_with fail
        clear c8
        generalize wr.heap.size = p at *
        go_loopw [12] (fun i wr => ∃ (j : Nat) (kd : Int), j ≤ k ∧ i = .int .i64 j ∧ TW w wr B 40 V (wu (F + j)) V (-1) (2 + k + 1 + 2 * j) kd ∧ TakeAt wr p ((40 : Nat) : Int) T true 2) (fun i _ => k - (intOf i).toNat)
        case atStart => exact ⟨0, 4, by omega, rfl, H60.out, T6.out⟩
        case round =>
          clear H60 T6
          obtain ⟨j, kd, hj, rfl, h, ht⟩ := hrel
          have ht : TakeAt wr p ((40 : Nat) : Int) T true 2 := ht
          by_cases hlt : j < k
          · have hlt' : (j : Int) < k := by omega
            have hne : wu (F + j) ≠ T := by rw [show T = wu (F + k) from HT.out]; exact wu_ne F j k hlt hn30
            have hw := h.waits (by decide)
            rw [show (V != 0 && wu (F + j) != IntKind.u64.wrap (V - 1)) = true by rw [hzb2, show IntKind.u64.wrap (V - 1) = T from HPR.out]; simpa using hne] at hw
            have c0 := h.c0
            have hp := h.peek0
            have hst := h.steps
            obtain ⟨c, hc⟩ : ∃ c, c = 2 + k + 1 + 2 * j := ⟨_, rfl⟩
            rw [← hc] at h hst
            have hcb : c < 10000 := by omega
            have hcb1 : c + 1 < 10000 := by omega
            have hcs : ((c + 1 : Nat) : Int) = (c : Int) + 1 := by omega
            have hfj : F + (j : Int) + 1 = F + ((j + 1 : Nat) : Int) := by omega
            have HCS := Lib.hid hcs; have HFJ := Lib.hid hfj
            clear hcs hfj
            have ew : wrap64 ((c : Int) + 1) = c + 1 := IntWalk.wrap64_in _ (by omega)
            have hfa := field_acc
            have HC := Lib.hid hc
            have H := Lib.hid h; have T0 := Lib.hid ht; have HNE := Lib.hid hne
            clear h ht hne hc
            go_wp2_with (first
              | (go_at_call 13; refine hw.mono ?_; rintro e w' ⟨rfl, hw⟩; obtain rfl := hw.symm)
              | (go_at_call 34; ((with_reducible refine hst.mono ?_); rintro e w' ⟨rfl, hw⟩; obtain rfl := hw.symm; clear hst))
              | (go_at_call 15; ((with_reducible refine hp.mono ?_); rintro e w' ⟨rfl, hw⟩; obtain rfl := hw.symm; clear hp))
              | (go_at_call 20; refine (H.out.wait (t := 40) hcb T0.out HNE.out).mono ?_; rintro e w7 ⟨rfl, h7, t7, f7⟩; have hst := h7.steps; rw [HCS.out] at hst; clear c0; have c0 := h7.c0; have H7 := Lib.hid h7; have T7 := Lib.hid t7; clear h7 t7 f7 T0)
              | (go_at_call 35; refine H7.out.last.mono ?_; rintro e w8 ⟨⟨x, y, z, rfl⟩, h8, b8⟩; have hp := h8.peek0; clear c0; have c0 := h8.c0; have c72 := h8.c72; have H8 := Lib.hid h8; have T8 := Lib.hid (T7.out.below b8); clear h8 b8)
              | (go_at_call 22; refine (newgive _).mono ?_; rintro e w9 ⟨rfl, g9, b9⟩; have H9 := Lib.hid (H8.out.keep b9); have T9 := Lib.hid (T8.out.below b9); have G9 := Lib.hid g9; have hs9 := H8.out.below.size; have hne9 : p ≠ w8.heap.size := (Nat.ne_of_lt T8.out.lt); clear g9 b9 c0 c72)
              | (go_at_call 23; ((with_reducible refine (H9.out.give hs9 hcb1 G9.out).mono ?_); rw [wu_add]; rintro e w10 ⟨rfl, h10, f10⟩; have T10 : Hid (TakeAt w10 p ((40 : Nat) : Int) T true 2) := f10.cells _ _ _ _ T9.out rfl hne9; have H10 := Lib.hid h10; clear h10 f10)))
            clear ew
            go_roundw
            case rel => exact ⟨j + 1, 4, by omega, by go_num, by
              have := H10.out
              rw [show c = 2 + k + 1 + 2 * j from HC.out, HFJ.out] at this
              exact this, T10.out⟩
            case measure => simp [intOf]; omega
          · obtain rfl : j = k := by omega
            have hTe : wu (F + j) = T := HT.out.symm
            rw [hTe] at h
            have hw := h.waits (by decide)
            rw [show (V != 0 && T != IntKind.u64.wrap (V - 1)) = false by rw [show IntKind.u64.wrap (V - 1) = T from HPR.out]; simp] at hw
            have H := Lib.hid h; have T0 := Lib.hid ht
            clear h ht hTe
            go_wp2_with (first
              | (go_at_call 13; refine hw.mono ?_; rintro e w' ⟨rfl, hw⟩; obtain rfl := hw.symm)
              | (go_at_call 20; ((with_reducible refine (H.out.servedq (t := 40) hs (by decide) (by omega) T0.out rfl).mono ?_); rintro e w7 ⟨rfl, h7, t7, f7⟩; have c72 := h7.c72; have c8 := h7.cq (by decide); have H7 := Lib.hid h7; clear h7 t7 f7))
              | (go_at_call 10; refine (lives11 _).mono ?_; rintro e w8 ⟨rfl, b8⟩))
            go_ret
            exact ⟨rfl, H7.out.below.trans (b8.mono H7.out.below.size)⟩
end Go.Proofs.Ytpceooniklpidaa
