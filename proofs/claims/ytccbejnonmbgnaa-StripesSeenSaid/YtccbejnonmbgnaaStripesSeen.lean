/-
  StripesSeen.
-/
import Derived.Test.YtccbejnonmbgnaaSeen
import Derived.Test.YtccbejnonmbgnaaWorldsGrow
namespace Go.Proofs.Ytccbejnonmbgnaa
open Go.RowKit Go.Maps
set_option linter.unusedVariables false

theorem hasP_in {n k : Int} (h0 : 0 ≤ k) (h1 : k < tsize n) : hasP n k = true := by
  unfold hasP; rw [decide_eq_true h0, decide_eq_true h1]; rfl
theorem tsize_in1 {n : Int} (h : 1 ≤ n ∧ n ≤ 12) : 1 ≤ tsize n ∧ tsize n ≤ 4096 := by
  have h1 := tsize_le n
  have h2 := tsize_pos n h
  have h3 : tsize n ≠ 0 := beq_eq_false_iff_ne.1 h2
  omega

set_option maxRecDepth 10000 in
set_option maxHeartbeats 10000000 in
theorem seen_any (l : List (Int × Int × Int)) (al : Option Addr) (capl : Nat) (bits : Int) (hb : (Lit.int .u8 bits).wf = true) (xs : List Int) (ax : Option Addr) (caps : Nat) (w : World) (hl : Trip w al capl l) (hx : Byt w ax caps xs) :
    Calls Try.prog 4 #[.slice al l.length capl, .int .u8 bits, .slice ax xs.length caps] w fun e w' => e = .returned (.bool true) ∧ Below w.heap.size w w' := by
  have hbr : 0 ≤ bits ∧ bits < 256 := by
    have hmin : IntKind.u8.min = 0 := rfl
    have hmax : IntKind.u8.max = 255 := rfl
    simp only [Lit.wf, Bool.and_eq_true, decide_eq_true_eq] at hb; omega
  have hn : 1 ≤ 1 + bits % 12 ∧ 1 + bits % 12 ≤ 12 := by omega
  have e1 : wrap64 (1 + bits % 12) = 1 + bits % 12 := IntWalk.wrap64_in _ (by omega)
  have hw := world12 (1 + bits % 12) hn (Below.refl w.heap.size w)
  have hts := tsize_pos (1 + bits % 12) hn
  have hsz := fun w => size_any (1 + bits % 12) w
  have HN := Lib.hid hn; have HL := Lib.hid hl; have HX := Lib.hid hx
  clear hb hl hx
  by_cases hbig : 40 < l.length ∨ 300 < xs.length
  · have hl1 : (decide ((40 : Int) < l.length) || decide ((300 : Int) < xs.length)) = true := by
      rcases hbig with h | h
      · rw [decide_eq_true (show (40 : Int) < l.length by omega), Bool.true_or]
      · rw [decide_eq_true (show (300 : Int) < xs.length by omega), Bool.or_true]
    cases h40 : decide ((40 : Int) < l.length)
    all_goals
      rw [h40] at hl1
      try rw [Bool.false_or] at hl1
      clear hbig hsz hts
      go_enter Try.func4, Try.ntmps4
      go_wp2_with (first
        | (go_at_call 20; with_reducible refine hw.mono ?_; rintro e w1 ⟨wb, cb, s, rfl, g1, n1, b1⟩; clear hw)
        | (go_at_call 15; refine (lives12 _).mono ?_; rintro e W' ⟨rfl, hb⟩))
      go_ret
      exact ⟨rfl, bnext b1 hb⟩
  · have h1 : (l.length : Int) ≤ 40 := by omega
    have h2 : (xs.length : Int) ≤ 300 := by omega
    clear hbig
    go_enter Try.func4, Try.ntmps4
    go_wp2_with (first
      | (go_at_call 20; with_reducible refine hw.mono ?_; rintro e w1 ⟨wb, cb, s, rfl, g1, n1, b1⟩; clear hw)
      | (go_at_call 21; with_reducible refine (hsz _).mono ?_; rintro e w3 ⟨rfl, rfl⟩))
    have hnew := three_new w1
    rw [arr_zero] at hnew
    have hB4 : Below w1.heap.size w1 (((w1.alloc (.cells #[.int .u64 0, .int .u64 0, .int .u64 0, .int .u64 0, .int .u64 0, .int .u64 0, .int .u64 0, .int .u64 0, .int .u64 0, .int .u64 0, .int .u64 0, .int .u64 0, .int .u64 0, .int .u64 0, .int .u64 0, .int .u64 0, .int .u64 0, .int .u64 0, .int .u64 0, .int .u64 0, .int .u64 0, .int .u64 0, .int .u64 0, .int .u64 0, .int .u64 0, .int .u64 0, .int .u64 0, .int .u64 0, .int .u64 0, .int .u64 0, .int .u64 0, .int .u64 0, .int .u64 0, .int .u64 0, .int .u64 0, .int .u64 0, .int .u64 0, .int .u64 0, .int .u64 0, .int .u64 0, .int .u64 0, .int .u64 0, .int .u64 0, .int .u64 0, .int .u64 0, .int .u64 0, .int .u64 0, .int .u64 0, .int .u64 0, .int .u64 0, .int .u64 0, .int .u64 0, .int .u64 0, .int .u64 0, .int .u64 0, .int .u64 0, .int .u64 0, .int .u64 0, .int .u64 0, .int .u64 0, .int .u64 0, .int .u64 0, .int .u64 0, .int .u64 0] 36)).alloc (.cells #[.int .u64 0, .int .u64 0, .int .u64 0, .int .u64 0, .int .u64 0, .int .u64 0, .int .u64 0, .int .u64 0, .int .u64 0, .int .u64 0, .int .u64 0, .int .u64 0, .int .u64 0, .int .u64 0, .int .u64 0, .int .u64 0, .int .u64 0, .int .u64 0, .int .u64 0, .int .u64 0, .int .u64 0, .int .u64 0, .int .u64 0, .int .u64 0, .int .u64 0, .int .u64 0, .int .u64 0, .int .u64 0, .int .u64 0, .int .u64 0, .int .u64 0, .int .u64 0, .int .u64 0, .int .u64 0, .int .u64 0, .int .u64 0, .int .u64 0, .int .u64 0, .int .u64 0, .int .u64 0, .int .u64 0, .int .u64 0, .int .u64 0, .int .u64 0, .int .u64 0, .int .u64 0, .int .u64 0, .int .u64 0, .int .u64 0, .int .u64 0, .int .u64 0, .int .u64 0, .int .u64 0, .int .u64 0, .int .u64 0, .int .u64 0, .int .u64 0, .int .u64 0, .int .u64 0, .int .u64 0, .int .u64 0, .int .u64 0, .int .u64 0, .int .u64 0] 36)).alloc (.cells #[.int .u64 0, .int .u64 0, .int .u64 0, .int .u64 0, .int .u64 0, .int .u64 0, .int .u64 0, .int .u64 0, .int .u64 0, .int .u64 0, .int .u64 0, .int .u64 0, .int .u64 0, .int .u64 0, .int .u64 0, .int .u64 0, .int .u64 0, .int .u64 0, .int .u64 0, .int .u64 0, .int .u64 0, .int .u64 0, .int .u64 0, .int .u64 0, .int .u64 0, .int .u64 0, .int .u64 0, .int .u64 0, .int .u64 0, .int .u64 0, .int .u64 0, .int .u64 0, .int .u64 0, .int .u64 0, .int .u64 0, .int .u64 0, .int .u64 0, .int .u64 0, .int .u64 0, .int .u64 0, .int .u64 0, .int .u64 0, .int .u64 0, .int .u64 0, .int .u64 0, .int .u64 0, .int .u64 0, .int .u64 0, .int .u64 0, .int .u64 0, .int .u64 0, .int .u64 0, .int .u64 0, .int .u64 0, .int .u64 0, .int .u64 0, .int .u64 0, .int .u64 0, .int .u64 0, .int .u64 0, .int .u64 0, .int .u64 0, .int .u64 0, .int .u64 0] 36)) := ((below_alloc _ _).alloc (by simp) _).alloc (by simp; omega) _
    obtain ⟨w4, hw4⟩ : ∃ w4, w4 = (((w1.alloc (.cells #[.int .u64 0, .int .u64 0, .int .u64 0, .int .u64 0, .int .u64 0, .int .u64 0, .int .u64 0, .int .u64 0, .int .u64 0, .int .u64 0, .int .u64 0, .int .u64 0, .int .u64 0, .int .u64 0, .int .u64 0, .int .u64 0, .int .u64 0, .int .u64 0, .int .u64 0, .int .u64 0, .int .u64 0, .int .u64 0, .int .u64 0, .int .u64 0, .int .u64 0, .int .u64 0, .int .u64 0, .int .u64 0, .int .u64 0, .int .u64 0, .int .u64 0, .int .u64 0, .int .u64 0, .int .u64 0, .int .u64 0, .int .u64 0, .int .u64 0, .int .u64 0, .int .u64 0, .int .u64 0, .int .u64 0, .int .u64 0, .int .u64 0, .int .u64 0, .int .u64 0, .int .u64 0, .int .u64 0, .int .u64 0, .int .u64 0, .int .u64 0, .int .u64 0, .int .u64 0, .int .u64 0, .int .u64 0, .int .u64 0, .int .u64 0, .int .u64 0, .int .u64 0, .int .u64 0, .int .u64 0, .int .u64 0, .int .u64 0, .int .u64 0, .int .u64 0] 36)).alloc (.cells #[.int .u64 0, .int .u64 0, .int .u64 0, .int .u64 0, .int .u64 0, .int .u64 0, .int .u64 0, .int .u64 0, .int .u64 0, .int .u64 0, .int .u64 0, .int .u64 0, .int .u64 0, .int .u64 0, .int .u64 0, .int .u64 0, .int .u64 0, .int .u64 0, .int .u64 0, .int .u64 0, .int .u64 0, .int .u64 0, .int .u64 0, .int .u64 0, .int .u64 0, .int .u64 0, .int .u64 0, .int .u64 0, .int .u64 0, .int .u64 0, .int .u64 0, .int .u64 0, .int .u64 0, .int .u64 0, .int .u64 0, .int .u64 0, .int .u64 0, .int .u64 0, .int .u64 0, .int .u64 0, .int .u64 0, .int .u64 0, .int .u64 0, .int .u64 0, .int .u64 0, .int .u64 0, .int .u64 0, .int .u64 0, .int .u64 0, .int .u64 0, .int .u64 0, .int .u64 0, .int .u64 0, .int .u64 0, .int .u64 0, .int .u64 0, .int .u64 0, .int .u64 0, .int .u64 0, .int .u64 0, .int .u64 0, .int .u64 0, .int .u64 0, .int .u64 0] 36)).alloc (.cells #[.int .u64 0, .int .u64 0, .int .u64 0, .int .u64 0, .int .u64 0, .int .u64 0, .int .u64 0, .int .u64 0, .int .u64 0, .int .u64 0, .int .u64 0, .int .u64 0, .int .u64 0, .int .u64 0, .int .u64 0, .int .u64 0, .int .u64 0, .int .u64 0, .int .u64 0, .int .u64 0, .int .u64 0, .int .u64 0, .int .u64 0, .int .u64 0, .int .u64 0, .int .u64 0, .int .u64 0, .int .u64 0, .int .u64 0, .int .u64 0, .int .u64 0, .int .u64 0, .int .u64 0, .int .u64 0, .int .u64 0, .int .u64 0, .int .u64 0, .int .u64 0, .int .u64 0, .int .u64 0, .int .u64 0, .int .u64 0, .int .u64 0, .int .u64 0, .int .u64 0, .int .u64 0, .int .u64 0, .int .u64 0, .int .u64 0, .int .u64 0, .int .u64 0, .int .u64 0, .int .u64 0, .int .u64 0, .int .u64 0, .int .u64 0, .int .u64 0, .int .u64 0, .int .u64 0, .int .u64 0, .int .u64 0, .int .u64 0, .int .u64 0, .int .u64 0] 36)) := ⟨_, rfl⟩
    rw [← hw4] at hnew hB4 ⊢
    clear hw4 hsz
    have hlo : w.heap.size ≤ w1.heap.size ∧ w.heap.size ≤ w1.heap.size + 1 ∧ w.heap.size ≤ w1.heap.size + 1 + 1 := by have := b1.size; omega
    have hne : w1.heap.size ≠ w1.heap.size + 1 ∧ w1.heap.size ≠ w1.heap.size + 1 + 1 ∧ w1.heap.size + 1 ≠ w1.heap.size + 1 + 1 := by omega
    generalize w1.heap.size + 1 + 1 = q2 at *
    generalize w1.heap.size + 1 = q1 at *
    obtain ⟨q0, hq0⟩ : ∃ q0, q0 = w1.heap.size := ⟨_, rfl⟩
    rw [← hq0] at hnew hlo hne ⊢
    have hS := tsize_in1 HN.out
    have hP : ∀ k, 0 ≤ k → k < tsize (1 + bits % 12) → hasP (1 + bits % 12) k = true := fun k => hasP_in
    have HS := Lib.hid hS; have HPP := Lib.hid hP
    have hini : SeenAt w w4 wb cb q0 q1 q2 ⟨1 + bits % 12, 8, 3, 1, 16⟩ (.pointer none) 0 s (fun _ => 0) (fun _ => 0) :=
      ⟨g1.keep hB4, hnew, .inl rfl, fun t ht => ⟨n1.vo _ (by omega), Int.le_refl _, Int.le_refl _⟩, n1.le, hlo, hne⟩
    have HI := Lib.hid hini
    clear hlo hne hS hP hini hnew hB4 g1 n1 b1 hq0
    generalize tsize (1 + bits % 12) = S at *
    generalize 1 + bits % 12 = n at *
    go_loopw [12, 13, 15] (fun m nx i wr => ∃ (k j : Nat) (s' : CS) (f g : Nat → Int), k ≤ xs.length ∧ i = .int .i64 k ∧ nx = .int .i64 j ∧ j ≤ 2 * l.length ∧ SeenAt w wr wb cb q0 q1 q2 ⟨n, 8, 3, 1, 16⟩ m k s' f g) (fun _ _ i _ => xs.length - (intOf i).toNat)
    case atStart => exact ⟨0, 0, s, _, _, by omega, rfl, rfl, by omega, HI.out⟩
    case round =>
      clear HI
      obtain ⟨k, j, s', f, g, hk, rfl, rfl, hj, hA⟩ := hrel
      by_cases hlt : k < xs.length
      · have hB := hA.wld.own.below
        obtain ⟨xb, xo, x, rfl, hxr, cx⟩ := (HX.out.below hB).at k hlt
        have hlt' : (k : Int) < xs.length := by omega
        have HA := Lib.hid hA
        clear hA hB
        cases h3 : (x % 3 == 0)
        · have hS1 := HS.out
          have hroom : Hid s'.room := CS.room_of _ HA.out.le (by unfold lim; omega)
          rcases HA.out.under with rfl | ⟨mb, a, r, rfl, hM, hlo, hmem⟩
          · by_cases hjl : j < 2 * l.length
            · obtain ⟨p, hp2⟩ : ∃ p, p = j / 2 := ⟨_, rfl⟩
              have hj2 : (j : Int) / 2 = (p : Int) := by omega
              obtain ⟨lb, lo, y0, y1, y2, rfl, ⟨hy0, hy1, hy2⟩, cy0, cy1, cy2⟩ := (HL.out.below HA.out.wld.own.below).at p (by omega)
              have d1 : (j : Int) < 2 * l.length := by omega
              have d2 : wrap64 (2 * (l.length : Int)) = 2 * l.length := IntWalk.wrap64_in _ (by omega)
              have d5 : (p : Int) < l.length := by omega
              clear hp2
              go_wp2
              obtain ⟨wA, hwA⟩ : ∃ wA, wA = wr.alloc (.cells #[.int .u16 y0, .int .u16 y1, .int .u16 y2] 50) := ⟨_, rfl⟩
              have hbA : Below wr.heap.size wr wA := by rw [hwA]; exact below_alloc _ _
              have hyc : ∀ q, q < 3 → wA.cell? ⟨wr.heap.size, q, none⟩ = some (.int .u16 (yv y0 y1 y2 q)) := fun q hq => by
                have hh := heap_alloc_new wr (.cells #[.int .u16 y0, .int .u16 y1, .int .u16 y2] 50)
                rw [← hwA] at hh
                have : q = 0 ∨ q = 1 ∨ q = 2 := by omega
                rcases this with rfl | rfl | rfl <;> simp [World.cell?, hh, yv]
              have hyr : ∀ q, 0 ≤ yv y0 y1 y2 q ∧ yv y0 y1 y2 q < 65536 := fun q => by unfold yv; split <;> omega
              rw [← hwA]
              have KA := Lib.hid (HA.out.wld.keep hbA); have TA := Lib.hid (HA.out.arrs.keep hbA); have LA : Hid (wr.heap.size < wA.heap.size) := by rw [hwA]; show _ < _; simp
              have HYC := Lib.hid hyc; have HYR := Lib.hid hyr
              have HLO : Hid (w.heap.size ≤ wA.heap.size) := Nat.le_trans HA.out.wld.own.below.size hbA.size
              clear hwA hbA hyc hyr cy0 cy1 cy2 hy0 hy1 hy2 cx
              generalize yv y0 y1 y2 = yf at *
              generalize wr.heap.size = BB at *
              obtain ⟨i0, hi0, hz0, hz1, hz2⟩ := info_parts info_place
              have HI0 := Lib.hid hi0; have HZ0 := Lib.hid hz0; have HZ1 := Lib.hid hz1; have HZ2 := Lib.hid hz2
              clear hi0 hz0 hz1 hz2
              go_loopw [21, 22] (fun v i wi => ∃ q : Nat, q ≤ 3 ∧ i = .int .i64 q ∧ wi.ownsRow wA.heap.size 30 2 v q (flat (Yl n S yf q)) ∧ Below wA.heap.size wA wi) (fun _ i _ => 3 - (intOf i).toNat)
              case atStart => exact ⟨0, by omega, rfl, World.ownsRow_nil _ _ _ _, Below.refl _ _⟩
              case round =>
                obtain ⟨q, hq, rfl, hown, hbl⟩ := hrel
                by_cases hq3 : q < 3
                · have cq := (hbl.cell (p := ⟨BB, q, none⟩) LA.out).trans (HYC.out q hq3)
                  have hr := HYR.out q
                  have hfl := Yl_flat n S yf q
                  have hqi : (q : Int) < 3 := by omega
                  have HO := Lib.hid hown; have HBL := Lib.hid hbl; have HF := Lib.hid hfl
                  generalize yf q = yy at *
                  clear hown hbl hfl
                  go_wp2_with (at_builtin; refine wpList_append_own _ rfl _ _ 22 rfl wA.heap.size 30 i0 (.agg #[.int .i64 0, .int .i64 0]) 2 16 Try.underlying22 HI0.out HZ0.out HZ1.out HZ2.out rfl (by decide) _ _ _ rfl (HO.out.alloc _) ⟨_, 0, none⟩ 1 1 [.int .i64 n, .int .i64 (yy % S)] rfl rfl ?c1 ?c2 ?c3 ?c4 ?c5 ?_)
                  case c1 =>
                    intro j2 u2 hj2
                    have hb2 := box2 wr n (yy % S) 30
                    match j2, hj2 with
                    | 0, hj2 => rw [add_plain, Nat.zero_add, hb2]; exact hj2
                    | 1, hj2 => rw [add_plain, Nat.zero_add, hb2]; exact hj2
                  case c2 => simp [Value.oneCell']
                  case c3 => unfold maxLen; omega
                  case c4 => omega
                  case c5 => simp; have := HBL.out.size; omega
                  intro v' w2 hown' hgrow _
                  go_wp2
                  go_roundw
                  case rel => exact ⟨q + 1, by omega, by go_num, by rw [HF.out]; exact hown', (HBL.out.alloc HBL.out.size _).grown hgrow (by simp; have := HBL.out.size; omega) (fun j hj => (HO.out.lt j hj).1)⟩
                  case measure => simp [intOf]; omega
                · obtain rfl : q = 3 := by omega
                  have hyl := Yl_len n S yf 3
                  obtain ⟨yr, hyr⟩ := Yl_cons n S yf 2
                  have hmemv : ∀ x ∈ vof (Yl n S yf 3), 64 ≤ x ∧ x < 128 := vof_mem
                  have hu := vof_cons (l := yr) (p := (n, yf 0 % S)) (HPP.out _ (Int.emod_nonneg _ (by omega)) (Int.emod_lt_of_pos _ (by omega)))
                  rw [← hyr] at hu
                  generalize Yl n S yf 3 = pl at *
                  rw [← hyl] at hown
                  obtain ⟨ap, cp, rfl, hpl⟩ := Plc.of_own hown
                  have KB := Lib.hid (KA.out.keep hbl); have TB := Lib.hid (TA.out.keep hbl)
                  have HLO2 : Hid (w.heap.size ≤ wr.heap.size) := Nat.le_trans HLO.out hbl.size
                  have hnm := newmark_any pl ap cp _ hpl (by omega)
                  rw [hyl] at hnm ⊢
                  obtain ⟨a, r, har⟩ := hu
                  rw [har] at hnm hmemv
                  have HMV := Lib.hid hmemv
                  clear hown hbl hpl hyr har hmemv hyl
                  go_wp2_with (go_at_call 25; refine hnm.mono ?_; rintro e w8 ⟨mb, rfl, hM, hl8, b8⟩; clear hnm; have K0 := Lib.hid (KB.out.keep b8); have T0 := Lib.hid (TB.out.keep b8); have HL8 : Hid (w.heap.size ≤ mb) := Nat.le_trans HLO2.out hl8; have HM8 := Lib.hid hM; clear hM b8 hl8)
                  have hM := HM8.out; have hmem := HMV.out; have hlo := HL8.out
                  obtain ⟨ha1, ha2⟩ := hmem a (List.mem_cons_self)
                  obtain ⟨t, ht⟩ := Int.eq_ofNat_of_zero_le (show 0 ≤ a - 64 by omega)
                  obtain rfl : a = 64 + (t : Int) := by omega
                  have ht64 : t < 64 := by omega
                  have hwf : (Lit.int .u64 (64 + (t : Int))).wf = true := by
                    have hmin : IntKind.u64.min = 0 := rfl
                    have hmax : IntKind.u64.max = 18446744073709551615 := rfl
                    simp only [Lit.wf, Bool.and_eq_true, decide_eq_true_eq]; omega
                  obtain ⟨hv1, hv2, hv3⟩ := HA.out.val t ht64
                  have hst := mstep_any K0.out hroom.out hM hlo hwf
                  have HMM := Lib.hid hM; have HME := Lib.hid hmem; have HT64 := Lib.hid ht64
                  obtain ⟨v, hv⟩ : ∃ v, v = f t := ⟨_, rfl⟩
                  have hvv : Hid (v = f t) := hv
                  rw [← hv] at hv2 hv3
                  have e2 : IntKind.u64.wrap (64 + (t : Int) - 64) = t := by rw [IntKind.wrap_u64]; omega
                  have e3 : IntKind.u64.wrap (v + 1) = v + 1 := by rw [IntKind.wrap_u64]; omega
                  have d3 : decide ((64 : Int) ≤ t) = false := decide_eq_false (by omega)
                  have d4 : (t : Int) < 64 := by omega
                  have g1 := fun w => acc_field1 4 (64 + (t : Int)) (s'.val (64 + (t : Int))) (wu (s'.val (64 + (t : Int)) + 1)) w
                  have g0 := fun w => acc_field0 4 (64 + (t : Int)) (s'.val (64 + (t : Int))) (wu (s'.val (64 + (t : Int)) + 1)) w
                  clear hv hv1 hM hmem ha1 ha2 ht hwf
                  go_wp2_with (first
                    | (go_at_call 26; refine hst.mono ?_; rintro e w5 ⟨rfl, k5, M5, fr5⟩; have T5 := Lib.hid (T0.out.mark HMM.out fr5); have c5 := k5.cell.1; have hl5 : Calls Try.prog 27 #[.pointer (some ⟨cb, 0, none⟩)] w5 fun e w' => e = .returned (.agg #[.int .u8 4, .int .u64 (64 + (t : Int)), .int .u64 (s'.val (64 + (t : Int))), .int .u64 (wu (s'.val (64 + (t : Int)) + 1))]) ∧ Below w5.heap.size w5 w' := last_wld k5; have K5 := Lib.hid k5; have MM5 := Lib.hid M5; clear hst k5 M5 fr5)
                    | (go_at_call 27; refine hl5.mono ?_; rintro e w6 ⟨rfl, b6⟩; have T6 := Lib.hid (T5.out.keep b6); have k6 := K5.out.keep b6; have MM6 := Lib.hid (MM5.out.keep b6); clear hl5 b6 c5; have c6 := k6.cell.1; have hl6 : Calls Try.prog 27 #[.pointer (some ⟨cb, 0, none⟩)] w6 fun e w' => e = .returned (.agg #[.int .u8 4, .int .u64 (64 + (t : Int)), .int .u64 (s'.val (64 + (t : Int))), .int .u64 (wu (s'.val (64 + (t : Int)) + 1))]) ∧ Below w6.heap.size w6 w' := last_wld k6; have K6 := Lib.hid k6; clear k6)
                    | (go_at_call 27; refine hl6.mono ?_; rintro e w7 ⟨rfl, b7⟩; have T7 := T6.out.keep b7; have K7 := Lib.hid (K6.out.keep b7); have MM7 := Lib.hid (MM6.out.keep b7); obtain ⟨z0, -, -⟩ := T7.cell t HT64.out; obtain ⟨f0, -, -⟩ := T7.free t; rw [← hvv.out] at z0; have TT7 := Lib.hid T7; clear hl6 b7 c6 T7))
                  · have fin := HA.out.add t HT64.out (by omega) K7.out TT7.out (m' := .pointer none) (.inl rfl)
                    rw [← hvv.out] at fin
                    exact ⟨⟨k + 1, j + 1, _, _, _, by omega, by go_num, by go_num, by omega, fin⟩, by simp [intOf]; omega⟩
                  · obtain ⟨b, r', rfl⟩ : ∃ b r', r = b :: r' := by
                      cases r with
                      | nil => simp_all
                      | cons b r' => exact ⟨b, r', rfl⟩
                    have fin := HA.out.add t HT64.out (by omega) K7.out TT7.out (m' := .pointer (some ⟨mb, 0, none⟩)) (.inr ⟨mb, b, r', rfl, MM7.out, hlo, fun x hx => HME.out x (List.mem_cons_of_mem _ hx)⟩)
                    rw [← hvv.out] at fin
                    exact ⟨⟨k + 1, j + 1, _, _, _, by omega, by go_num, by go_num, by omega, fin⟩, by simp [intOf]; omega⟩
            · have d1 : ¬ ((j : Int) < 2 * l.length) := by omega
              have d2 : wrap64 (2 * (l.length : Int)) = 2 * l.length := IntWalk.wrap64_in _ (by omega)
              go_wp2
              go_roundw
              all_goals (first | (show (_ : Nat) < _; simp [intOf] <;> omega) | (exact ⟨k + 1, j, s', f, g, by omega, by go_num, rfl, hj, HA.out.wait⟩))
          · have K0 := Lib.hid HA.out.wld; have T0 := Lib.hid HA.out.arrs
            obtain ⟨ha1, ha2⟩ := hmem a (List.mem_cons_self)
            obtain ⟨t, ht⟩ := Int.eq_ofNat_of_zero_le (show 0 ≤ a - 64 by omega)
            obtain rfl : a = 64 + (t : Int) := by omega
            have ht64 : t < 64 := by omega
            have hwf : (Lit.int .u64 (64 + (t : Int))).wf = true := by
              have hmin : IntKind.u64.min = 0 := rfl
              have hmax : IntKind.u64.max = 18446744073709551615 := rfl
              simp only [Lit.wf, Bool.and_eq_true, decide_eq_true_eq]; omega
            obtain ⟨hv1, hv2, hv3⟩ := HA.out.val t ht64
            have hst := mstep_any K0.out hroom.out hM hlo hwf
            have HMM := Lib.hid hM; have HME := Lib.hid hmem; have HT64 := Lib.hid ht64
            obtain ⟨v, hv⟩ : ∃ v, v = f t := ⟨_, rfl⟩
            have hvv : Hid (v = f t) := hv
            rw [← hv] at hv2 hv3
            have e2 : IntKind.u64.wrap (64 + (t : Int) - 64) = t := by rw [IntKind.wrap_u64]; omega
            have e3 : IntKind.u64.wrap (v + 1) = v + 1 := by rw [IntKind.wrap_u64]; omega
            have d3 : decide ((64 : Int) ≤ t) = false := decide_eq_false (by omega)
            have d4 : (t : Int) < 64 := by omega
            have g1 := fun w => acc_field1 4 (64 + (t : Int)) (s'.val (64 + (t : Int))) (wu (s'.val (64 + (t : Int)) + 1)) w
            have g0 := fun w => acc_field0 4 (64 + (t : Int)) (s'.val (64 + (t : Int))) (wu (s'.val (64 + (t : Int)) + 1)) w
            clear hv hv1 hM hmem ha1 ha2 ht hwf
            go_wp2_with (first
              | (go_at_call 26; refine hst.mono ?_; rintro e w5 ⟨rfl, k5, M5, fr5⟩; have T5 := Lib.hid (T0.out.mark HMM.out fr5); have c5 := k5.cell.1; have hl5 : Calls Try.prog 27 #[.pointer (some ⟨cb, 0, none⟩)] w5 fun e w' => e = .returned (.agg #[.int .u8 4, .int .u64 (64 + (t : Int)), .int .u64 (s'.val (64 + (t : Int))), .int .u64 (wu (s'.val (64 + (t : Int)) + 1))]) ∧ Below w5.heap.size w5 w' := last_wld k5; have K5 := Lib.hid k5; have MM5 := Lib.hid M5; clear hst k5 M5 fr5)
              | (go_at_call 27; refine hl5.mono ?_; rintro e w6 ⟨rfl, b6⟩; have T6 := Lib.hid (T5.out.keep b6); have k6 := K5.out.keep b6; have MM6 := Lib.hid (MM5.out.keep b6); clear hl5 b6 c5; have c6 := k6.cell.1; have hl6 : Calls Try.prog 27 #[.pointer (some ⟨cb, 0, none⟩)] w6 fun e w' => e = .returned (.agg #[.int .u8 4, .int .u64 (64 + (t : Int)), .int .u64 (s'.val (64 + (t : Int))), .int .u64 (wu (s'.val (64 + (t : Int)) + 1))]) ∧ Below w6.heap.size w6 w' := last_wld k6; have K6 := Lib.hid k6; clear k6)
              | (go_at_call 27; refine hl6.mono ?_; rintro e w7 ⟨rfl, b7⟩; have T7 := T6.out.keep b7; have K7 := Lib.hid (K6.out.keep b7); have MM7 := Lib.hid (MM6.out.keep b7); obtain ⟨z0, -, -⟩ := T7.cell t HT64.out; obtain ⟨f0, -, -⟩ := T7.free t; rw [← hvv.out] at z0; have TT7 := Lib.hid T7; clear hl6 b7 c6 T7))
            · have fin := HA.out.add t HT64.out (by omega) K7.out TT7.out (m' := .pointer none) (.inl rfl)
              rw [← hvv.out] at fin
              exact ⟨⟨k + 1, j, _, _, _, by omega, by go_num, by go_num, by omega, fin⟩, by simp [intOf]; omega⟩
            · obtain ⟨b, r', rfl⟩ : ∃ b r', r = b :: r' := by
                cases r with
                | nil => simp_all
                | cons b r' => exact ⟨b, r', rfl⟩
              have fin := HA.out.add t HT64.out (by omega) K7.out TT7.out (m' := .pointer (some ⟨mb, 0, none⟩)) (.inr ⟨mb, b, r', rfl, MM7.out, hlo, fun x hx => HME.out x (List.mem_cons_of_mem _ hx)⟩)
              rw [← hvv.out] at fin
              exact ⟨⟨k + 1, j, _, _, _, by omega, by go_num, by go_num, by omega, fin⟩, by simp [intOf]; omega⟩
        · have hS1 := HS.out
          have hu0 : 0 ≤ x / 3 % S := Int.emod_nonneg _ (by omega)
          have hu1 : x / 3 % S < S := Int.emod_lt_of_pos _ (by omega)
          have hp := HPP.out _ hu0 hu1
          obtain ⟨u, hu⟩ : ∃ u, u = x / 3 % S := ⟨_, rfl⟩
          rw [← hu] at hp
          have hst : 0 ≤ stripe n u ∧ stripe n u < 64 := by unfold stripe; omega
          obtain ⟨t, ht⟩ := Int.eq_ofNat_of_zero_le hst.1
          have ht64 : t < 64 := by omega
          have hver : ∀ w, Calls Try.prog 22 #[.agg #[.int .i64 n, .int .i64 (x / 3 % S)]] w fun e w' => e = .returned (.int .u64 (64 + (t : Int))) ∧ Below w.heap.size w w' := fun w => by
            have := ver_any n u w
            rw [show ver n u = 64 + (t : Int) by unfold ver; rw [hp, if_pos rfl, ht]] at this
            rw [← hu]; exact this
          have hstr : ∀ w, Calls Try.prog 24 #[.agg #[.int .i64 n, .int .i64 (x / 3 % S)]] w fun e w' => e = .returned (.int .i64 (t : Int)) ∧ Below w.heap.size w w' := fun w => by
            have := stripe_in n u hp w
            rw [ht] at this
            rw [← hu]; exact this
          have hwf : (Lit.int .u64 (64 + (t : Int))).wf = true := by
            have hmin : IntKind.u64.min = 0 := rfl
            have hmax : IntKind.u64.max = 18446744073709551615 := rfl
            simp only [Lit.wf, Bool.and_eq_true, decide_eq_true_eq]; omega
          obtain ⟨hv1, hv2, hv3⟩ := HA.out.val t ht64
          have hroom : s'.room := CS.room_of _ HA.out.le (by unfold lim; omega)
          have hvwf := HA.out.wld.own.wf (64 + (t : Int))
          rw [hv1] at hvwf
          have HV1 := Lib.hid hv1; have HVW := Lib.hid hvwf; have HWF := Lib.hid hwf; have HRM := Lib.hid hroom; have HT := Lib.hid ht64
          have hodd := fun w => odd_any (f t) hvwf w
          clear hst hp hu hu0 hu1 hv1 hvwf hwf hroom ht
          go_wp2_with (first
            | (go_at_call 22; with_reducible refine (hver _).mono ?_; rintro e w5 ⟨rfl, b5⟩; have k5 := HA.out.wld.keep b5; have c0 := k5.cell.1; have T5 := Lib.hid (HA.out.arrs.keep b5); have U5 := Lib.hid (HA.out.under.keep b5); clear b5 hver)
            | (go_at_call 23; refine (k5.load HRM.out _ HWF.out).mono ?_; rw [HV1.out]; rintro e w6 ⟨rfl, k6, r6⟩; have T6 := Lib.hid (T5.out.rest r6); have U6 := Lib.hid (U5.out.rest r6); have K6 := Lib.hid k6; clear r6 k6 k5 T5 U5 c0)
            | (go_at_call 24; with_reducible refine (hstr _).mono ?_; rintro e w7 ⟨rfl, b7⟩; have T7 := Lib.hid (T6.out.keep b7); have U7 := Lib.hid (U6.out.keep b7); have K7 := Lib.hid (K6.out.keep b7); clear b7 hstr T6 U6 K6))
          obtain ⟨z0, z1, z2⟩ := T7.out.cell t ht64
          have x0 := fun st : ExtW w7 => st.cell z0
          have x1 := fun st : ExtW w7 => st.cell z1
          have x2 := fun st : ExtW w7 => st.cell z2
          obtain ⟨v, hv⟩ : ∃ v, v = f t := ⟨_, rfl⟩
          obtain ⟨y, hy⟩ : ∃ y, y = g t := ⟨_, rfl⟩
          have k1 : decide ((t : Int) < 0) = false := decide_eq_false (by omega)
          have k2 : decide ((64 : Int) ≤ (t : Int)) = false := decide_eq_false (by omega)
          have k3 : (t : Int) < 64 := by omega
          have hodx : ∀ st : ExtW w7, Calls Try.prog 18 #[.int .u64 v] st.val fun e w' => e = .returned (.bool (v % 2 == 1)) ∧ st.val = w' := fun st => by
            rw [hv]; exact (hodd st.val).mono fun e w' ⟨he, hw⟩ => ⟨he, hw.symm⟩
          rw [← hv] at x0 hv2 hv3
          rw [← hy] at x1 x2
          have hvv : Hid (v = f t) := hv
          have hyy : Hid (y = g t) := hy
          simp only [← hv]
          clear hodd hv hy z0 z1 z2
          refine wp_region_ext (by kernel_rfl) (by kernel_rfl) ?_
          repeat (go_big_quiet_step ((go_at_call 18; with_reducible refine calls_ext_same (hodx _))))
          refine wpQuiet_nil ?_
          rintro W ⟨⟨W2, hW⟩, rfl⟩
          obtain ⟨N1, N2, N3⟩ := HA.out.ne
          have T8 := T7.out.keep hW; have K8 := Lib.hid (K7.out.keep hW); have U8 := Lib.hid (U7.out.keep hW)
          obtain ⟨z0, z1, z2⟩ := T8.cell t ht64
          have TT8 := Lib.hid T8
          rw [← hvv.out] at z0
          rw [← hyy.out] at z1 z2
          clear x0 x1 x2 hodx k1 k2 hW T8
          have hodx : ∀ st : ExtW W, Calls Try.prog 18 #[.int .u64 v] st.val fun e w' => e = .returned (.bool (v % 2 == 1)) ∧ st.val = w' := fun st => by
            rw [hvv.out]; exact (odd_any (f t) HVW.out st.val).mono fun e w' ⟨he, hw⟩ => ⟨he, hw.symm⟩
          have x0 := fun st : ExtW W => st.cell z0
          have x1 := fun st : ExtW W => st.cell z1
          have x2 := fun st : ExtW W => st.cell z2
          clear z0 z1 z2
          cases ho : (v % 2 == 1) <;> cases he : (v == y)
          all_goals (have hne : (v != y) = !(v == y) := rfl; rw [he] at hne)
          all_goals (rw [ho] at hodx)
          all_goals (go_wp2)
          all_goals (refine wp_region_ext (by kernel_rfl) (by kernel_rfl) ?_)
          all_goals (repeat (go_big_quiet_step ((go_at_call 18; with_reducible refine calls_ext_same (hodx _)))))
          all_goals (refine wpQuiet_nil ?_)
          all_goals (rintro W3 ⟨⟨W4, hW4⟩, rfl⟩)
          all_goals (have T9 := TT8.out.keep hW4; have K9 := Lib.hid (K8.out.keep hW4); have U9 := Lib.hid (U8.out.keep hW4))
          all_goals (obtain ⟨z0, z1, z2⟩ := T9.cell t ht64; obtain ⟨f0, f1, f2⟩ := T9.free t; have TT9 := Lib.hid T9; rw [← hvv.out] at z0)
          all_goals (have y0 : (W3.setCell ⟨q2, t, none⟩ (.int .u64 v)).cell? ⟨q0, t, none⟩ = some (.int .u64 v) := (World.cell?_setCell_other _ _ _ _ (by simp)).trans z0)
          all_goals (have y1 : (W3.setCell ⟨q2, t, none⟩ (.int .u64 v)).frozen? ⟨q1, t, none⟩ = false := by rw [World.frozen?_setCell]; exact f1)
          all_goals (clear x0 x1 x2 hodx hW4 T9)
          all_goals go_wp2
          all_goals go_roundw
          all_goals (first | (show (_ : Nat) < _; simp [intOf] <;> omega) | (have fin := HA.out.load t ht64 K9.out TT9.out U9.out; rw [← hvv.out] at fin; exact ⟨k + 1, j, _, _, _, by omega, by go_num, rfl, hj, fin⟩))
      · obtain rfl : k = xs.length := by omega
        have HB := Lib.hid hA.wld.own.below
        clear hA
        go_wp2_with (go_at_call 15; refine (lives12 _).mono ?_; rintro e W' ⟨rfl, hb⟩)
        go_ret
        exact ⟨rfl, bnext HB.out hb⟩

theorem trip_of {w : World} {v : Value} (h : Leaf.holds w (.sl [.int .u16, .int .u16, .int .u16]) v) : ∃ (l : List (Int × Int × Int)) (a : Option Addr) (cap : Nat), v = .slice a l.length cap ∧ Trip w a cap l := by
  obtain ⟨l, a, cap, rfl, h1, h2, h3, h4, h5⟩ := recs_of h
  have hwf : ∀ x, (Lit.int .u16 x).wf = true → 0 ≤ x ∧ x < 65536 := fun x hx => by
    have hmin : IntKind.u16.min = 0 := rfl
    have hmax : IntKind.u16.max = 65535 := rfl
    simp only [Lit.wf, Bool.and_eq_true, decide_eq_true_eq] at hx; omega
  obtain ⟨m, hm, hp⟩ := list_of (fun i (x : Int × Int × Int) => l[i]? = some [.int .u16 x.1, .int .u16 x.2.1, .int .u16 x.2.2] ∧ (0 ≤ x.1 ∧ x.1 < 65536) ∧ (0 ≤ x.2.1 ∧ x.2.1 < 65536) ∧ 0 ≤ x.2.2 ∧ x.2.2 < 65536) l.length (fun i hi => by
    obtain ⟨c0, r, e0, g0, h⟩ := allHold_cons (h4 _ (List.getElem_mem hi))
    obtain ⟨c1, r, rfl, g1, h⟩ := allHold_cons h
    obtain ⟨c2, r, rfl, g2, h⟩ := allHold_cons h
    obtain rfl := allHold_nil h
    obtain ⟨z0, rfl, k0⟩ := holds_int g0
    obtain ⟨z1, rfl, k1⟩ := holds_int g1
    obtain ⟨z2, rfl, k2⟩ := holds_int g2
    exact ⟨(z0, z1, z2), by rw [List.getElem?_eq_getElem hi, e0], hwf _ k0, hwf _ k1, hwf _ k2⟩)
  refine ⟨m, a, cap, by rw [hm], ⟨by omega, h2, h3, fun x hx => ?_, ?_⟩⟩
  · obtain ⟨i, hi, rfl⟩ := List.mem_iff_getElem.1 hx
    exact (hp i hi).2
  · rcases h5 with rfl | ⟨b, off, rfl, h6⟩
    · exact .inl (List.length_eq_zero_iff.1 hm)
    · refine .inr ⟨b, off, rfl, fun i hi => ?_⟩
      have hi2 : i < l.length := by omega
      have hq := (hp i (by omega)).1
      rw [List.getElem?_eq_getElem hi2, Option.some.injEq] at hq
      have a0 := h6 i hi2 0 (by decide)
      have a1 := h6 i hi2 1 (by decide)
      have a2 := h6 i hi2 2 (by decide)
      rw [hq] at a0 a1 a2
      exact ⟨a0, by rw [Nat.add_assoc]; exact a1, by rw [Nat.add_assoc]; exact a2⟩
theorem byt_of {w : World} {v : Value} (h : Leaf.holds w (.sl [.int .u8]) v) : ∃ (l : List Int) (a : Option Addr) (cap : Nat), v = .slice a l.length cap ∧ Byt w a cap l := by
  obtain ⟨l, a, cap, rfl, h1, h2, h3, h4, h5⟩ := recs_of h
  have hwf : ∀ x, (Lit.int .u8 x).wf = true → 0 ≤ x ∧ x < 256 := fun x hx => by
    have hmin : IntKind.u8.min = 0 := rfl
    have hmax : IntKind.u8.max = 255 := rfl
    simp only [Lit.wf, Bool.and_eq_true, decide_eq_true_eq] at hx; omega
  obtain ⟨m, hm, hp⟩ := list_of (fun i (x : Int) => l[i]? = some [.int .u8 x] ∧ 0 ≤ x ∧ x < 256) l.length (fun i hi => by
    obtain ⟨c0, r, e0, g0, h⟩ := allHold_cons (h4 _ (List.getElem_mem hi))
    obtain rfl := allHold_nil h
    obtain ⟨z0, rfl, k0⟩ := holds_int g0
    exact ⟨z0, by rw [List.getElem?_eq_getElem hi, e0], hwf _ k0⟩)
  refine ⟨m, a, cap, by rw [hm], ⟨by omega, h2, h3, fun x hx => ?_, ?_⟩⟩
  · obtain ⟨i, hi, rfl⟩ := List.mem_iff_getElem.1 hx
    exact (hp i hi).2
  · rcases h5 with rfl | ⟨b, off, rfl, h6⟩
    · exact .inl (List.length_eq_zero_iff.1 hm)
    · refine .inr ⟨b, off, rfl, fun i hi => ?_⟩
      have hi2 : i < l.length := by omega
      have hq := (hp i (by omega)).1
      rw [List.getElem?_eq_getElem hi2, Option.some.injEq] at hq
      have a0 := h6 i hi2 0 (by decide)
      rw [hq] at a0
      simpa using a0
theorem leaves_trips : leaves Try.prog 4 32 = some [.sl [.int .u16, .int .u16, .int .u16]] := by kernel_rfl
theorem leaves_bytes : leaves Try.prog 4 33 = some [.sl [.int .u8]] := by kernel_rfl

set_option maxRecDepth 10000 in
theorem walkStripesSeen {H : Type} (w : World) (enc : TypeId × Value → H) (base : Nat) (v : Value) (d : DataW H) (p : List MemPlace) (k : DataW.Trod enc Try.prog w 0 (fun _ => true) true 32 v d p) (o : Value.okWide Try.prog w .any base 32 v) (n : Int) (hn : (Lit.int .u8 n).wf = true)
    (enc2 : TypeId × Value → H) (base2 : Nat) (v2 : Value) (d2 : DataW H) (p2 : List MemPlace) (k2 : DataW.Trod enc2 Try.prog w 0 (fun _ => true) true 33 v2 d2 p2) (o2 : Value.okWide Try.prog w .any base2 33 v2) :
    Calls Try.prog 4 #[v, .int .u8 n, v2] w fun e w' => e = .returned (.bool true) ∧ Below w.heap.size w w' := by
  obtain ⟨a0, n0, cap0, rfl⟩ := Go.WideShapes.okWide_slice Try.underlying32 o
  obtain ⟨a1, n1, cap1, rfl⟩ := Go.WideShapes.okWide_slice Try.underlying33 o2
  obtain ⟨l, a, cap, hv, hl⟩ := trip_of (opened leaves_trips k).1
  obtain ⟨l2, a2, cap2, hv2, hl2⟩ := byt_of (opened leaves_bytes k2).1
  rw [hv, hv2]
  exact seen_any l a cap n hn l2 a2 cap2 w hl hl2
end Go.Proofs.Ytccbejnonmbgnaa
