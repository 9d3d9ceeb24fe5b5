/-
  Texts of this prover, merged: Grows, GrowDo, GrowLives, LookLives, StripesLives, MarkW, MarkRun, LookTries.
-/
import Derived.Test.YtdabcnjjbfmkaaaP1
import Derived.Test.YtdabcnjjbfmkaaaBegin0
import Derived.Test.YtdabcnjjbfmkaaaP2
import Derived.Test.YtdabcnjjbfmkaaaMark
import Derived.Test.YtdabcnjjbfmkaaaRefPure
import Derived.Test.YtdabcnjjbfmkaaaOpen
import Derived.Deep.RegionHeld2
import Derived.Deep.DeepCutAuto
/-
  Grows: what is not there, what is over, without a world; the document's; a step.
-/
namespace Go.Proofs.Ytdabcnjjbfmkaaa
open Go.RowKit Go.Maps
set_option linter.unusedVariables false

/-- Is a Grow, a Swap, of a word over at once? -/
def gdead (t : Int) : Bool := asNow t != 0 || asOld t == 12
def sdead (t : Int) : Bool := asNow t == 0
theorem asNow_nn (t : Int) : 0 ≤ asNow t := by unfold asNow; split <;> omega
end Go.Proofs.Ytdabcnjjbfmkaaa

/-
  Grows: a step in a world. (written by gengrow.py)
-/
namespace Go.Proofs.Ytdabcnjjbfmkaaa
open Go.RowKit Go.Maps
set_option linter.unusedVariables false

theorem ws_set4 {w0 w : World} {B : WB} {V : WV} {s : CS} {b o : Nat} {cs : Array Value} {T : TypeId} (h : WS w0 w B V s) (hb : w.heap[b]? = some (.cells cs T (0, 0))) (hT : wTy T = false) (hlo : w0.heap.size ≤ b) (v : Value) : WS w0 (w.setCell ⟨b, o, none⟩ v) B V s :=
  h.fr (set_ty hb o v) (fun X hX => by cases hXT : (X == T); rfl; rw [beq_iff_eq] at hXT; subst hXT; rw [hX] at hT; cases hT) (set_below h.below h.below.size hlo o v)
theorem wu_of_wf {v : Int} (h : 0 ≤ v ∧ v < 18446744073709551616) : (Lit.int .u64 v).wf = true := bd_wf h

end Go.Proofs.Ytdabcnjjbfmkaaa

/-
  Grows: layer 19's examples.
-/
namespace Go.Proofs.Ytdabcnjjbfmkaaa
open Go.RowKit Go.Maps
set_option linter.unusedVariables false

theorem world12v (b : Int) (hb : 1 ≤ b ∧ b ≤ 12) (w : World) : Calls Try.prog 23 #[.int .i64 b] w fun e w' => ∃ B, e = .returned (.pointer (some ⟨B.wb, 0, none⟩)) ∧ WS w w' B (v0 ⟨b, 8, 3, 1, 16⟩) (CS.init [(2, tword b 0)]) := by
  have hn1 : Calls Try.prog 40 #[.agg #[.int .i64 b, .int .i64 8, .int .i64 3, .int .i64 1, .int .i64 16]] w fun e w' => ∃ B : WB, e = .returned (.tuple #[.pointer (some ⟨B.wb, 0, none⟩), .int .i64 0]) ∧ WS w w' B (v0 ⟨b, 8, 3, 1, 16⟩) (CS.init [(2, tword b 0)]) :=
    (wnew_ok ⟨b, 8, 3, 1, 16⟩ (by simp [Conf.ok]; omega) w).mono fun e w' ⟨wb, cb, ib, nb, he, g1, g2, g3, g4, g5, g6, g7⟩ => ⟨⟨wb, cb, ib, nb⟩, he, ws_of (Below.refl _ w) g1 g2 g3 g4 g5 g6 g7⟩
  clear hb
  go_enter Try.func23, Try.ntmps23
  go_wp2_with (go_at_call 40; with_reducible refine hn1.mono ?_; rintro e w1 ⟨B, rfl, h1⟩)
  go_ret
  exact ⟨_, rfl, h1⟩
theorem WS.slow {w0 w : World} {B : WB} {V : WV} {s : CS} (h : WS w0 w B V s) : w0.heap.size ≤ w.heap.size := h.below.size
end Go.Proofs.Ytdabcnjjbfmkaaa

/-
  Looks: layer 14's example.
-/
namespace Go.Proofs.Ytdabcnjjbfmkaaa
open Go.RowKit Go.Maps TagPure
set_option linter.unusedVariables false

def k14 : ByteArray := ⟨#[97]⟩
def x14 : LK := ⟨k14, hashOf k14, 2, .fst, 0, [], [], 0, [], 0, 0, 0, false, 0⟩
theorem k14_pl : (plist (hashOf k14) 1).length = 2 := by kernel_rfl
theorem k14_of : (vof (plist (hashOf k14) 1)).length = 2 := by kernel_rfl
theorem ex14 : (liter 40 (v0 ⟨1, 8, 3, 1, 16⟩) (CS.init [(2, tword 1 0)]) x14).1 = 9 := by kernel_rfl
theorem ex14g : (liter 40 (v0 ⟨1, 8, 3, 1, 16⟩) (CS.init [(2, tword 1 0)]) x14).2.2.2.got = (0, 0, 4) := by kernel_rfl
theorem ex14b : (liter 40 (v0 ⟨1, 8, 3, 1, 16⟩) (CS.init [(2, tword 1 0)]) x14).2.2.2.bad = false := by kernel_rfl
theorem LookAt.lower {w : World} {lo lo' fb : Nat} {x : LK} (h : LookAt w lo fb x) (hl : lo' ≤ lo) : LookAt w lo' fb x := by
  obtain ⟨h0, va, vv, vs, h1, h2, h3, h4, h5⟩ := h
  exact ⟨Nat.le_trans hl h0, va, vv, vs, h1, h2, own_lo h3 hl, h4, h5⟩
theorem LookE.below {w w' : World} {lo fb : Nat} {x : LK} (h : LookE w lo fb x) (hb : Below w.heap.size w w') : LookE w' lo fb x := by
  obtain ⟨a, ha⟩ := h; exact ⟨a, ha.below hb⟩
theorem lgotE {w : World} {lo fb : Nat} {x : LK} (h : LookE w lo fb x) : Calls Try.prog 64 #[.pointer (some ⟨fb, 0, none⟩)] w fun e w' => e = .returned (.tuple #[.int .i64 x.got.1, .int .u64 x.got.2.1, .int .i64 x.got.2.2]) ∧ Below w.heap.size w w' := by
  obtain ⟨a, ha⟩ := h; exact lgot (x := { x with vb := a }) ha
theorem lfailsE {w : World} {lo fb : Nat} {x : LK} (h : LookE w lo fb x) : Calls Try.prog 31 #[.pointer (some ⟨fb, 0, none⟩)] w fun e w' => e = .returned (.bool x.bad) ∧ w' = w := by
  obtain ⟨a, ha⟩ := h; exact lfails (x := { x with vb := a }) ha
/-- A new one holds. -/
theorem LOk.new (key : ByteArray) (m : Int) (hm : 0 ≤ m ∧ m < 9223372036854775808) (vb : Nat) : LOk ⟨key, hashOf key, m, .fst, 0, [], [], 0, [], 0, 0, 0, false, vb⟩ :=
  ⟨hm, hfold_bd _ _, Nat.zero_le _, Nat.zero_le _, fun p h => (by cases h), fun c => absurd rfl c, fun c => (by rcases c with c | c <;> cases c), fun c => (by rcases c with c | c <;> cases c), fun c => (by cases c), fun n h => (by cases h)⟩
set_option maxRecDepth 10000 in
set_option maxHeartbeats 4000000 in
theorem lives14 (w : World) : Calls Try.prog 24 #[] w fun e w' => e = .returned (.bool true) ∧ Below w.heap.size w w' := by
  have hH := Lib.hid (fun W => hash_any k14 (by decide) W)
  have hP := Lib.hid (fun W => places_any (hashOf k14) 1 (hfold_bd _ _).1 (hfold_bd _ _).2 (by decide) W)
  have hNL := Lib.hid (fun W => newlook k14 (by decide) 2 2 (by decide) W)
  have hK := k14_of
  obtain ⟨L, hL⟩ : ∃ L, L = plist (hashOf k14) 1 := ⟨_, rfl⟩
  have hl2 : L.length = 2 := by rw [hL]; exact k14_pl
  rw [← hL] at hP hK
  obtain ⟨A, hA⟩ : ∃ A, A = vof L := ⟨_, rfl⟩
  have hO := Lib.hid (fun W ao (h : Plc W ao L.length L) => of_any L ao L.length W h (by omega))
  rw [← hA] at hO hK
  have HK := Lib.hid hK
  clear hA hL hl2 hK
  go_enter Try.func24, Try.ntmps24
  go_upto_region 6 with (go_at_call 23; refine (world12v 1 (by decide) w).mono ?_; intro e w1 hh; obtain ⟨B, hh1, h1⟩ := hh; subst hh1; have H1 := Lib.hid h1; clear h1)
  go_loopw [2, 3] (fun v2 v3 wr => v2 = .string k14 ∧ v3 = .int .i64 0 ∧ WS w wr B (v0 ⟨1, 8, 3, 1, 16⟩) (CS.init [(2, tword 1 0)])) (fun _ _ _ => 0)
  case atStart => exact ⟨rfl, rfl, H1.out⟩
  case round =>
    obtain ⟨rfl, rfl, h2⟩ := hrel
    have H2 := Lib.hid h2
    clear h2 H1
    have hk2 : ((A.length : Int) != 2) = false := by rw [HK.out]; rfl
    have hk3 : ((A.length : Int) == 2) = true := by rw [HK.out]; rfl
    go_upto_region 10 with (first
      | (go_at_call 26; refine (hH.out _).mono ?_; intro e w3 hh; obtain ⟨hh1, b3⟩ := hh; subst hh1; have H3 := Lib.hid (H2.out.keep b3); clear b3 H2)
      | (go_at_call 25; refine (hP.out _).mono ?_; intro e w4 hh; obtain ⟨pv, hh1, hp, b4⟩ := hh; subst hh1; obtain ⟨ao, hpv, hpl⟩ := hp.plc; subst hpv; have H4 := Lib.hid (H3.out.keep b4); have HPL := Lib.hid hpl; clear b4 hp hpl H3)
      | (go_at_call 63; refine (hO.out _ _ HPL.out).mono ?_; intro e w5 hh; obtain ⟨av, hh1, ha, b5⟩ := hh; subst hh1; obtain ⟨aa, ga, rfl, -⟩ := adr_formL ha; have H5 := Lib.hid (H4.out.keep b5); clear b5 ha H4 HPL)
      | (go_at_call 30; refine (hNL.out _).mono ?_; intro e w6 hh; obtain ⟨fb, hh1, a6, b6⟩ := hh; subst hh1; have H6 := Lib.hid (H5.out.keep b6); have E6 : Hid (LookE w6 w.heap.size fb x14) := (a6.lower H5.out.slow).e; clear b6 a6 H5))
    have hrun := lrun 40 (by decide) 1 ⟨by decide, by decide⟩ (by unfold lim; decide) H6.out E6.out (LOk.new k14 2 (by decide) 0) (by decide) (by decide) (fun y hy => by cases hy)
    rw [ex14] at hrun
    obtain ⟨V9, hV9⟩ : ∃ V9, V9 = (liter 40 (v0 ⟨1, 8, 3, 1, 16⟩) (CS.init [(2, tword 1 0)]) x14).2.1 := ⟨_, rfl⟩
    obtain ⟨s9, hs9⟩ : ∃ s9, s9 = (liter 40 (v0 ⟨1, 8, 3, 1, 16⟩) (CS.init [(2, tword 1 0)]) x14).2.2.1 := ⟨_, rfl⟩
    obtain ⟨x9, hx9⟩ : ∃ x9, x9 = (liter 40 (v0 ⟨1, 8, 3, 1, 16⟩) (CS.init [(2, tword 1 0)]) x14).2.2.2 := ⟨_, rfl⟩
    have hg9 := ex14g
    have hb9 := ex14b
    rw [← hV9, ← hs9, ← hx9] at hrun
    rw [← hx9] at hg9 hb9
    have HG9 := Lib.hid hg9; have HB9 := Lib.hid hb9
    clear hV9 hs9 hx9 hg9 hb9
    go_upto_region 12 with (first
      | (go_at_call 27; refine hrun.mono ?_; intro e w7 hh; obtain ⟨hh1, h7, a7⟩ := hh; subst hh1; have H7 := Lib.hid h7; have E7 := Lib.hid a7; have hgt := lgotE a7; rw [HG9.out] at hgt; clear h7 a7 hrun H6 E6)
      | (go_at_call 64; refine hgt.mono ?_; intro e w8 hh; obtain ⟨hh1, b8⟩ := hh; subst hh1; have H8 := Lib.hid (H7.out.keep b8); have E8 := Lib.hid (E7.out.below b8); have hfl := lfailsE E8.out; rw [HB9.out] at hfl; clear b8 hgt H7 E7))
    go_wp2_with (first
      | (go_at_call 31; refine hfl.mono ?_; intro e w9 hh; obtain ⟨hh1, hh2⟩ := hh; subst hh1; obtain rfl := hh2.symm; clear hfl)
      | (go_at_call 26; refine (hH.out _).mono ?_; intro e w13 hh; obtain ⟨hh1, b3⟩ := hh; subst hh1; have H3 := Lib.hid (H8.out.keep b3); clear b3 H8)
      | (go_at_call 25; refine (hP.out _).mono ?_; intro e w14 hh; obtain ⟨pv, hh1, hp, b4⟩ := hh; subst hh1; obtain ⟨ao2, hpv, hpl⟩ := hp.plc; subst hpv; have H4 := Lib.hid (H3.out.keep b4); have HPL := Lib.hid hpl; clear b4 hp hpl H3)
      | (go_at_call 63; refine (hO.out _ _ HPL.out).mono ?_; intro e w15 hh; obtain ⟨av, hh1, ha, b5⟩ := hh; subst hh1; obtain ⟨aa2, ga2, rfl, -⟩ := adr_formL ha; have H5 := Lib.hid (H4.out.keep b5); clear b5 ha H4 HPL))
    go_ret
    exact ⟨rfl, H5.out.below⟩
end Go.Proofs.Ytdabcnjjbfmkaaa

/-
  Layer 12's example.
-/
namespace Go.Proofs.Ytdabcnjjbfmkaaa
open Go.RowKit Go.Maps
set_option linter.unusedVariables false

theorem world12 (b : Int) (hb : 1 ≤ b ∧ b ≤ 12) {w0 w : World} (hB : Below w0.heap.size w0 w) : Calls Try.prog 23 #[.int .i64 b] w fun e w' => ∃ wb cb s, e = .returned (.pointer (some ⟨wb, 0, none⟩)) ∧ Wld w0 w' wb cb ⟨b, 8, 3, 1, 16⟩ s ∧ New1 b s ∧ Below w.heap.size w w' := by
  have hn1 : Calls Try.prog 40 #[.agg #[.int .i64 b, .int .i64 8, .int .i64 3, .int .i64 1, .int .i64 16]] w fun e w' => ∃ wb cb s, e = .returned (.tuple #[.pointer (some ⟨wb, 0, none⟩), .int .i64 0]) ∧ Wld w0 w' wb cb ⟨b, 8, 3, 1, 16⟩ s ∧ New1 b s ∧ Below w.heap.size w w' :=
    new_wld hB ⟨b, 8, 3, 1, 16⟩ (by simp [Conf.ok]; omega)
  clear hb
  go_enter Try.func23, Try.ntmps23
  go_wp2_with (go_at_call 40; with_reducible refine hn1.mono ?_; rintro e w1 ⟨wb, cb, s, rfl, h1, n1, b1⟩)
  go_ret
  exact ⟨_, _, s, rfl, h1, n1, b1⟩

/-- Cells behind a Mark's steps. -/
def marked (s : CS) (xs : List Int) : CS := xs.foldl (fun s a => s.acc 4 a (wu (s.val a + 1))) s
theorem marked_le (s : CS) (xs : List Int) (m : Nat) (h : s.n ≤ m ∧ s.cnt ≤ m) : (marked s xs).n ≤ m + xs.length ∧ (marked s xs).cnt ≤ m + xs.length := by
  unfold marked
  induction xs generalizing s m with
  | nil => exact h
  | cons x r ih =>
    have := ih (s.acc 4 x (wu (s.val x + 1))) (m + 1) (room_acc m h)
    simp only [List.foldl_cons, List.length_cons]; omega
theorem marked_take {xs : List Int} {k : Nat} {a : Int} (s : CS) (h : xs[k]? = some a) : marked s (xs.take (k + 1)) = (marked s (xs.take k)).acc 4 a (wu ((marked s (xs.take k)).val a + 1)) := by
  unfold marked; rw [List.take_add_one, h, List.foldl_append]; rfl

set_option maxHeartbeats 1000000 in
theorem run_any {w0 w : World} {wb cb mb : Nat} {c : Conf} {s : CS} {xs : List Int} (h : Wld w0 w wb cb c s) (m : Nat) (hr : s.n ≤ m ∧ s.cnt ≤ m) (hm : m + xs.length < lim) (hM : MarkAt w mb xs) (hlo : w0.heap.size ≤ mb) (hx : ∀ a ∈ xs, (Lit.int .u64 a).wf = true) (most : Int) (hmost : (xs.length : Int) ≤ most) :
    Calls Try.prog 27 #[.pointer (some ⟨wb, 0, none⟩), .iface 81 (.pointer (some ⟨mb, 0, none⟩)), .int .i64 most] w fun e w' => e = .returned (.int .i64 xs.length) ∧ Wld w0 w' wb cb c (marked s xs) ∧ MarkAt w' mb [] := by
  have H := Lib.hid h; have HR := Lib.hid hr; have HM := Lib.hid hm; have HMA := Lib.hid hM; have HX := Lib.hid hx
  unfold lim at hm
  clear h hr hM hx
  go_enter Try.func27, Try.ntmps27
  go_wp2
  go_loopw [7] (fun i wr => ∃ k : Nat, k ≤ xs.length ∧ i = .int .i64 k ∧ Wld w0 wr wb cb c (marked s (xs.take k)) ∧ MarkAt wr mb (xs.drop k)) (fun i _ => xs.length - (intOf i).toNat)
  case atStart => exact ⟨0, by omega, rfl, H.out, HMA.out⟩
  case round =>
    obtain ⟨k, hk, rfl, h1, h2⟩ := hrel
    by_cases hlt : k < xs.length
    · have hd := List.drop_eq_getElem_cons hlt
      have hk1 := marked_take s (List.getElem?_eq_getElem hlt)
      have ha := HX.out _ (List.getElem_mem hlt)
      rw [hd] at h2
      generalize xs[k] = a at *
      have hov := over_any h2
      rw [show decide (a :: xs.drop (k + 1) = []) = false from rfl] at hov
      have hkl : (k : Int) < most := by omega
      have hl := marked_le s (xs.take k) m HR.out
      rw [List.length_take] at hl
      have hst := mstep_any h1 (CS.room_of (m + xs.length) ⟨by omega, by omega⟩ HM.out) h2 hlo ha
      have HK := Lib.hid hk1
      clear hd hk1 ha hl h1 h2
      go_wp2_with (first
        | (go_at_call 200; refine hov.mono ?_; rintro e w2 ⟨rfl, hw⟩; obtain rfl := hw.symm)
        | (go_at_call 201; refine hst.mono ?_; rintro e w3 ⟨rfl, g1, g2, -⟩))
      exact ⟨⟨k + 1, by omega, by go_num, by rw [HK.out]; exact g1, g2⟩, by simp [intOf]; omega⟩
    · obtain rfl : k = xs.length := by omega
      rw [List.drop_length] at h2
      rw [List.take_length] at h1
      have hov := over_any h2
      have H1 := Lib.hid h1; have H2 := Lib.hid h2
      clear h1 h2
      by_cases hkl : (xs.length : Int) < most
      · go_wp2_with (go_at_call 200; refine hov.mono ?_; rintro e w2 ⟨rfl, hw⟩; obtain rfl := hw.symm)
        go_ret
        exact ⟨rfl, H1.out, H2.out⟩
      · go_wp2
        go_ret
        exact ⟨rfl, H1.out, H2.out⟩

theorem marked95 (s : CS) (h : s.val 95 = 0) : (marked s [95, 96]).val 95 = 1 := by
  simp [marked, CS.acc, upd, h]; decide
theorem marked96 (s : CS) (h : s.val 96 = 0) : (marked s [95, 96]).val 96 = 1 := by
  simp [marked, CS.acc, upd, h]; decide
theorem plc_three (w : World) (a0 a1 b0 b1 c0 c1 : Int) : Plc (w.alloc (.cells #[.int .i64 a0, .int .i64 a1, .int .i64 b0, .int .i64 b1, .int .i64 c0, .int .i64 c1] 44)) (some ⟨w.heap.size, 0, none⟩) 3 [(a0, a1), (b0, b1), (c0, c1)] := by
  have hq := heap_alloc_new w (.cells #[.int .i64 a0, .int .i64 a1, .int .i64 b0, .int .i64 b1, .int .i64 c0, .int .i64 c1] 44)
  have k : ∀ o, (w.alloc (.cells #[.int .i64 a0, .int .i64 a1, .int .i64 b0, .int .i64 b1, .int .i64 c0, .int .i64 c1] 44)).cell? ⟨w.heap.size, o, none⟩ = (#[.int .i64 a0, .int .i64 a1, .int .i64 b0, .int .i64 b1, .int .i64 c0, .int .i64 c1] : Array Value)[o]? := fun o => by
    unfold World.cell?; simp only; rw [hq]; rfl
  refine ⟨by simp, by unfold maxLen; omega, fun h => by simp at h, .inr ⟨_, 0, rfl, fun i hi => ?_⟩⟩
  have : i = 0 ∨ i = 1 ∨ i = 2 := by simp at hi; omega
  rcases this with rfl | rfl | rfl <;> (rw [k, k]; exact ⟨rfl, rfl⟩)

end Go.Proofs.Ytdabcnjjbfmkaaa


/-
  A Mark, in a frame by types; its step in a world.
-/
namespace Go.Proofs.Ytdabcnjjbfmkaaa
open Go.RowKit Go.Maps
set_option linter.unusedVariables false

theorem MarkAt.lt {w : World} {mb : Nat} {xs : List Int} (h : MarkAt w mb xs) : mb < w.heap.size := by obtain ⟨v, h1, _⟩ := h; exact (Array.getElem?_eq_some_iff.1 h1).1
theorem Sl.fr {K : TypeId → Bool} {mp : Bool} {w w' : World} {v : Value} {xs : List Int} (h : Sl w v xs) (hf : Fr K mp w w') (h2 : K 47 = false) : Sl w' v xs := by
  rcases h with h | ⟨g, off, cur, rfl, h3, h4⟩
  · exact .inl h
  · exact .inr ⟨g, off, cur, rfl, hf.cells _ _ _ _ h3 h2, h4⟩
theorem MarkAt.fr {K : TypeId → Bool} {mp : Bool} {w w' : World} {mb : Nat} {xs : List Int} (h : MarkAt w mb xs) (hf : Fr K mp w w') (h1 : K 153 = false) (h2 : K 47 = false) : MarkAt w' mb xs := by
  obtain ⟨v, h3, h4⟩ := h
  exact ⟨v, hf.cells _ _ _ _ h3 h1, h4.fr hf h2⟩
theorem ws_set {w0 w : World} {B : WB} {V : WV} {s : CS} {b o : Nat} {cs : Array Value} {T : TypeId} (h : WS w0 w B V s) (hb : w.heap[b]? = some (.cells cs T (0, 0))) (hT : wTy T = false) (hlo : w0.heap.size ≤ b) (v : Value) : WS w0 (w.setCell ⟨b, o, none⟩ v) B V s :=
  h.fr (set_ty hb o v) (fun X hX => by cases hXT : (X == T); rfl; rw [beq_iff_eq] at hXT; subst hXT; rw [hX] at hT; cases hT) (set_below h.below h.below.size hlo o v)
set_option maxHeartbeats 1000000 in
theorem wmstep {w0 w : World} {B : WB} {V : WV} {s : CS} {mb : Nat} {a : Int} {r : List Int} (h : WS w0 w B V s) (hr : s.room) (hM : MarkAt w mb (a :: r)) (hlo : w0.heap.size ≤ mb) (ha : (Lit.int .u64 a).wf = true) :
    Calls Try.prog 201 #[.pointer (some ⟨mb, 0, none⟩), .pointer (some ⟨B.wb, 0, none⟩)] w fun e w' => e = .returned (.bool (decide (r = []))) ∧ WS w0 w' B V (s.acc 4 a (wu (s.val a + 1))) ∧ MarkAt w' mb r ∧ Fx wTy true mb w w' := by
  have ho := over_any hM
  rw [show decide (a :: r = []) = false from rfl] at ho
  obtain ⟨v, hm, hs⟩ := hM
  obtain ⟨g, off, rfl, q0, hml, hg, ht⟩ := hs.at0
  have HT := Lib.hid (Sl.tail hg ht)
  clear hg ht
  have m0 : w.cell? ⟨mb, 0, none⟩ = some (.slice (some ⟨g, off, none⟩) (r.length + 1) (r.length + 1)) := by simp [World.cell?, hm]
  have c0 := h.c0
  have x0 := fun st : ExtW w => st.cell c0
  have x1 := fun st : ExtW w => st.cell m0
  have x2 := fun st : ExtW w => st.cell q0
  unfold maxLen at hml
  have H := Lib.hid h; have HR := Lib.hid hr; have HM := Lib.hid hm; have HS := Lib.hid hs; have HA := Lib.hid ha
  clear h hr hm hs ha
  go_enter Try.func201, Try.ntmps201
  go_wp2_with (go_at_call 200; refine ho.mono ?_; rintro e w1 ⟨rfl, hw⟩; obtain rfl := hw.symm; clear ho)
  refine wp_region_ext_tail 10 (by kernel_rfl) (by kernel_rfl) ?_
  simp only [List.take_succ_cons, List.take_zero, List.drop_succ_cons, List.drop_zero]
  repeat (go_big_quiet_step (fail))
  refine wpQuiet_nil ?_
  rintro W ⟨⟨W2, hW⟩, rfl⟩
  clear x0 x1 x2 c0 m0 q0
  have HW := Lib.hid hW
  have h1 := H.out.keep hW
  have HM1 := Lib.hid ((hW.block mb (Array.getElem?_eq_some_iff.1 HM.out).1).trans HM.out); have HS1 := Lib.hid (HS.out.keep hW)
  clear hW
  go_wp2_with (go_at_call 12; refine (h1.add HR.out a HA.out 1).mono ?_; rintro e w2 ⟨rfl, h2, r2⟩; have HM2 := Lib.hid (r2.cells _ _ _ _ HM1.out rfl); have HS2 := Lib.hid (HS1.out.fr r2 rfl); have H2 := Lib.hid h2; have R2 := Lib.hid r2; clear h1 h2 r2)
  have m0 : w2.cell? ⟨mb, 0, none⟩ = some (.slice (some ⟨g, off, none⟩) (r.length + 1) (r.length + 1)) := by have := HM2.out; simp [World.cell?, this]
  have m1 : w2.frozen? ⟨mb, 0, none⟩ = false := by have := HM2.out; simp [World.frozen?, this]
  have x1 := fun st : ExtW w2 => st.cell m0
  refine wp_region_ext_tail 18 (by kernel_rfl) (by kernel_rfl) ?_
  simp only [List.take_succ_cons, List.take_zero, List.drop_succ_cons, List.drop_zero]
  repeat (go_big_quiet_step (fail))
  refine wpQuiet_nil ?_
  rintro W3 ⟨⟨W4, hW4⟩, rfl⟩
  clear x1
  obtain ⟨ad, had⟩ : ∃ ad, ad = (if r = [] then some (⟨g, off, none⟩ : Addr) else some ⟨g, off + 1, none⟩) := ⟨_, rfl⟩
  have T3 := (((HT.out.keep HW.out).fr R2.out rfl).keep hW4)
  rw [← had] at T3
  simp only [← had]
  have HT3 := Lib.hid T3
  have H3 := Lib.hid (H2.out.keep hW4)
  have HM3 := Lib.hid ((hW4.block mb (Array.getElem?_eq_some_iff.1 HM2.out).1).trans HM2.out)
  have HW4 := Lib.hid hW4
  clear T3 had hW4 m1 m0 HT HS HS1 HS2
  have m0 : W3.cell? ⟨mb, 0, none⟩ = some (.slice (some ⟨g, off, none⟩) (r.length + 1) (r.length + 1)) := by have := HM3.out; simp [World.cell?, this]
  have m1 : W3.frozen? ⟨mb, 0, none⟩ = false := by have := HM3.out; simp [World.frozen?, this]
  have hM5 : MarkAt (W3.setCell ⟨mb, 0, none⟩ (.slice ad r.length r.length)) mb r := by
    have hsame := setCell_same (o := 0) HM3.out (.slice ad r.length r.length)
    refine ⟨_, hsame, ?_⟩
    rcases HT3.out with h | ⟨g2, o2, cur, he, h1, h2⟩
    · exact .inl h
    · refine .inr ⟨g2, o2, cur, he, (Below.heap_setCell _ _ _ _ fun c => ?_).trans h1, h2⟩
      simp only at c; subst c
      have := h1.symm.trans HM3.out; simp only [Option.some.injEq, Obj.cells.injEq] at this; exact absurd this.2.1 (by decide)
  have hov := over_any hM5
  obtain ⟨d, hd⟩ : ∃ d, d = decide (r = []) := ⟨_, rfl⟩
  rw [← hd] at hov
  have HD := Lib.hid hd
  clear hd
  have HM5 := Lib.hid hM5
  clear hM5
  go_wp2_with (go_at_call 200; refine hov.mono ?_; rintro e w6 ⟨rfl, hw⟩; subst hw)
  go_ret
  exact ⟨conf_b' HD.out, ws_set H3.out HM3.out rfl hlo _, HM5.out, (((below_fr HW.out _ _).trans (R2.out.trans (below_fr HW4.out _ _))).fx mb).trans (set_fx _ _ _ _ _ _)⟩
theorem plc_blk1 {w : World} {n : Nat} {a0 a1 : Int} (h : w.heap[n]? = some (.cells #[.int .i64 a0, .int .i64 a1] 44 (0, 0))) : Plc w (some ⟨n, 0, none⟩) 1 [(a0, a1)] := by
  refine ⟨Nat.le_refl _, by unfold maxLen; decide, fun h => (by cases h), .inr ⟨_, 0, rfl, fun i hi => ?_⟩⟩
  obtain rfl : i = 0 := by simp at hi; exact hi
  exact ⟨hcell h 0, hcell h 1⟩
theorem plc_blk2 {w : World} {n : Nat} {a0 a1 b0 b1 : Int} (h : w.heap[n]? = some (.cells #[.int .i64 a0, .int .i64 a1, .int .i64 b0, .int .i64 b1] 44 (0, 0))) : Plc w (some ⟨n, 0, none⟩) 2 [(a0, a1), (b0, b1)] := by
  refine ⟨Nat.le_refl _, by unfold maxLen; decide, fun h => (by cases h), .inr ⟨_, 0, rfl, fun i hi => ?_⟩⟩
  rcases i with _ | _ | i
  · exact ⟨hcell h 0, hcell h 1⟩
  · exact ⟨hcell h 2, hcell h 3⟩
  · simp at hi; omega
end Go.Proofs.Ytdabcnjjbfmkaaa

/-
  A Mark by itself, run in a world; what two Marks leave.
-/
namespace Go.Proofs.Ytdabcnjjbfmkaaa
open Go.RowKit Go.Maps
set_option linter.unusedVariables false

set_option maxHeartbeats 2000000 in
theorem wmrun {w0 w : World} {B : WB} {V : WV} {s : CS} {mb : Nat} {xs : List Int} (h : WS w0 w B V s) (m : Nat) (hr : s.n ≤ m ∧ s.cnt ≤ m) (hm : m + xs.length < 100000) (hM : MarkAt w mb xs) (hlo : w0.heap.size ≤ mb) (hx : ∀ a ∈ xs, (Lit.int .u64 a).wf = true) (hmost : xs.length ≤ 99) :
    Calls Try.prog 27 #[.pointer (some ⟨B.wb, 0, none⟩), .iface 81 (.pointer (some ⟨mb, 0, none⟩)), .int .i64 99] w fun e w' => e = .returned (.int .i64 xs.length) ∧ WS w0 w' B V (marked s xs) ∧ Fx wTy true mb w w' := by
  have H := Lib.hid h; have HR := Lib.hid hr; have HM := Lib.hid hm; have HMA := Lib.hid hM; have HX := Lib.hid hx; have HMO := Lib.hid hmost
  clear h hr hM hx hm
  go_enter Try.func27, Try.ntmps27
  go_wp2
  go_loopw [7] (fun i wr => ∃ k : Nat, k ≤ xs.length ∧ i = .int .i64 k ∧ WS w0 wr B V (marked s (xs.take k)) ∧ MarkAt wr mb (xs.drop k) ∧ Fx wTy true mb w wr) (fun i _ => xs.length - (intOf i).toNat)
  case atStart => exact ⟨0, by omega, rfl, H.out, HMA.out, (below_fr (Below.refl _ w) wTy true).fx mb⟩
  case round =>
    obtain ⟨k, hk, rfl, h1, h2, h3⟩ := hrel
    by_cases hlt : k < xs.length
    · have hd := List.drop_eq_getElem_cons hlt
      have hk1 := marked_take s (List.getElem?_eq_getElem hlt)
      have ha := HX.out _ (List.getElem_mem hlt)
      rw [hd] at h2
      generalize xs[k] = a at *
      have hov := over_any h2
      rw [show decide (a :: xs.drop (k + 1) = []) = false from rfl] at hov
      have hkl : (k : Int) < 99 := by omega
      have hl := marked_le s (xs.take k) m HR.out
      rw [List.length_take] at hl
      have hmm := HM.out
      have hst := wmstep h1 (CS.room_of (m + xs.length) ⟨by omega, by omega⟩ (by unfold lim; omega)) h2 hlo ha
      have HK := Lib.hid hk1; have H3 := Lib.hid h3
      clear hd hk1 ha hl h1 h2 h3 hmm
      go_wp2_with (first
        | (go_at_call 200; refine hov.mono ?_; intro e w2 hh; obtain ⟨hh1, hh2⟩ := hh; subst hh1; obtain rfl := hh2.symm; clear hov)
        | (go_at_call 201; refine hst.mono ?_; intro e w3 hh; obtain ⟨hh1, g1, g2, g3⟩ := hh; subst hh1; have G1 := Lib.hid g1; have G2 := Lib.hid g2; have G3 := Lib.hid g3; clear g1 g2 g3 hst))
      exact ⟨⟨k + 1, by omega, by go_num, by rw [HK.out]; exact G1.out, G2.out, H3.out.trans G3.out⟩, by simp [intOf]; omega⟩
    · obtain rfl : k = xs.length := by omega
      rw [List.drop_length] at h2
      rw [List.take_length] at h1
      have hov := over_any h2
      have H1 := Lib.hid h1; have H3 := Lib.hid h3
      clear h1 h2 h3
      by_cases hkl : (xs.length : Int) < 99
      · go_wp2_with (go_at_call 200; refine hov.mono ?_; intro e w2 hh; obtain ⟨hh1, hh2⟩ := hh; subst hh1; obtain rfl := hh2.symm; clear hov)
        go_ret
        exact ⟨rfl, H1.out, H3.out⟩
      · go_wp2
        go_ret
        exact ⟨rfl, H1.out, H3.out⟩
set_option maxHeartbeats 2000000 in
theorem wmrun9 {w0 w : World} {B : WB} {V : WV} {s : CS} {mb : Nat} {xs : List Int} (h : WS w0 w B V s) (m : Nat) (hr : s.n ≤ m ∧ s.cnt ≤ m) (hm : m + xs.length < 100000) (hM : MarkAt w mb xs) (hlo : w0.heap.size ≤ mb) (hx : ∀ a ∈ xs, (Lit.int .u64 a).wf = true) (hmost : xs.length ≤ 9) :
    Calls Try.prog 27 #[.pointer (some ⟨B.wb, 0, none⟩), .iface 81 (.pointer (some ⟨mb, 0, none⟩)), .int .i64 9] w fun e w' => e = .returned (.int .i64 xs.length) ∧ WS w0 w' B V (marked s xs) ∧ Fx wTy true mb w w' := by
  have H := Lib.hid h; have HR := Lib.hid hr; have HM := Lib.hid hm; have HMA := Lib.hid hM; have HX := Lib.hid hx; have HMO := Lib.hid hmost
  clear h hr hM hx hm
  go_enter Try.func27, Try.ntmps27
  go_wp2
  go_loopw [7] (fun i wr => ∃ k : Nat, k ≤ xs.length ∧ i = .int .i64 k ∧ WS w0 wr B V (marked s (xs.take k)) ∧ MarkAt wr mb (xs.drop k) ∧ Fx wTy true mb w wr) (fun i _ => xs.length - (intOf i).toNat)
  case atStart => exact ⟨0, by omega, rfl, H.out, HMA.out, (below_fr (Below.refl _ w) wTy true).fx mb⟩
  case round =>
    obtain ⟨k, hk, rfl, h1, h2, h3⟩ := hrel
    by_cases hlt : k < xs.length
    · have hd := List.drop_eq_getElem_cons hlt
      have hk1 := marked_take s (List.getElem?_eq_getElem hlt)
      have ha := HX.out _ (List.getElem_mem hlt)
      rw [hd] at h2
      generalize xs[k] = a at *
      have hov := over_any h2
      rw [show decide (a :: xs.drop (k + 1) = []) = false from rfl] at hov
      have hkl : (k : Int) < 9 := by omega
      have hl := marked_le s (xs.take k) m HR.out
      rw [List.length_take] at hl
      have hmm := HM.out
      have hst := wmstep h1 (CS.room_of (m + xs.length) ⟨by omega, by omega⟩ (by unfold lim; omega)) h2 hlo ha
      have HK := Lib.hid hk1; have H3 := Lib.hid h3
      clear hd hk1 ha hl h1 h2 h3 hmm
      go_wp2_with (first
        | (go_at_call 200; refine hov.mono ?_; intro e w2 hh; obtain ⟨hh1, hh2⟩ := hh; subst hh1; obtain rfl := hh2.symm; clear hov)
        | (go_at_call 201; refine hst.mono ?_; intro e w3 hh; obtain ⟨hh1, g1, g2, g3⟩ := hh; subst hh1; have G1 := Lib.hid g1; have G2 := Lib.hid g2; have G3 := Lib.hid g3; clear g1 g2 g3 hst))
      exact ⟨⟨k + 1, by omega, by go_num, by rw [HK.out]; exact G1.out, G2.out, H3.out.trans G3.out⟩, by simp [intOf]; omega⟩
    · obtain rfl : k = xs.length := by omega
      rw [List.drop_length] at h2
      rw [List.take_length] at h1
      have hov := over_any h2
      have H1 := Lib.hid h1; have H3 := Lib.hid h3
      clear h1 h2 h3
      by_cases hkl : (xs.length : Int) < 9
      · go_wp2_with (go_at_call 200; refine hov.mono ?_; intro e w2 hh; obtain ⟨hh1, hh2⟩ := hh; subst hh1; obtain rfl := hh2.symm; clear hov)
        go_ret
        exact ⟨rfl, H1.out, H3.out⟩
      · go_wp2
        go_ret
        exact ⟨rfl, H1.out, H3.out⟩
/-! ## What two Marks leave. -/
theorem marked_out (xs : List Int) : ∀ (s : CS) (a : Int), a ∉ xs → (marked s xs).val a = s.val a := by
  induction xs with
  | nil => intro s a _; rfl
  | cons x r ih =>
    intro s a h
    simp only [List.mem_cons, not_or] at h
    have := ih (s.acc 4 x (wu (s.val x + 1))) a h.2
    exact this.trans (CS.acc_val _ _ _ _ h.1)
theorem marked_in (xs : List Int) : ∀ (s : CS) (a : Int), xs.Nodup → a ∈ xs → (marked s xs).val a = wu (s.val a + 1) := by
  induction xs with
  | nil => intro s a _ h; cases h
  | cons x r ih =>
    intro s a hn h
    have hn2 := List.nodup_cons.1 hn
    by_cases hax : a = x
    · subst hax
      exact (marked_out r (s.acc 4 a (wu (s.val a + 1))) a hn2.1).trans (CS.acc_self _ _ _)
    · have h1 : a ∈ r := by rcases List.mem_cons.1 h with h | h; exact absurd h hax; exact h
      have := ih (s.acc 4 x (wu (s.val x + 1))) a hn2.2 h1
      rw [CS.acc_val _ _ _ _ hax] at this
      exact this
theorem wu_two (v : Int) : wu (wu (v + 1) + 1) = wu (v + 2) := by
  unfold wu; rw [IntKind.wrap_u64, IntKind.wrap_u64, IntKind.wrap_u64]; omega
/-- What is added at an address. -/
def twice (xs : List Int) (a : Int) : Int := if a ∈ xs then 2 else 0
theorem marked_twice (s : CS) (xs : List Int) (hn : xs.Nodup) (hw : ∀ a, (Lit.int .u64 (s.val a)).wf = true) (a : Int) : (marked (marked s xs) xs).val a = wu (s.val a + twice xs a) := by
  unfold twice
  by_cases h : a ∈ xs
  · rw [if_pos h, marked_in xs _ a hn h, marked_in xs _ a hn h, wu_two]
  · rw [if_neg h, marked_out xs _ a h, marked_out xs _ a h, Int.add_zero]
    have := wf_bd (hw a)
    unfold wu; rw [IntKind.wrap_u64]; omega
theorem vof_nodup (l : List (Int × Int)) : (vof l).Nodup := by
  have key : ∀ (l : List (Int × Int)) (o : List Int), o.Nodup → (l.foldl vstep o).Nodup := by
    intro l
    induction l with
    | nil => intro o h; exact h
    | cons p l ih =>
      intro o h
      refine ih _ ?_
      unfold vstep
      split
      · exact h
      · split
        · exact h
        · rename_i hc
          refine List.nodup_append.2 ⟨h, by simp, ?_⟩
          intro a ha b hb
          simp only [List.mem_singleton] at hb
          subst hb
          intro c; subst c
          exact hc (by simpa using ha)
  exact key l [] List.nodup_nil
theorem vof_memt {l : List (Int × Int)} : ∀ x ∈ vof l, 64 ≤ x ∧ x < 128 := by
  have key : ∀ (l : List (Int × Int)) (o : List Int), (∀ x ∈ o, 64 ≤ x ∧ x < 128) → ∀ x ∈ l.foldl vstep o, 64 ≤ x ∧ x < 128 := by
    intro l
    induction l with
    | nil => intro o h; exact h
    | cons p l ih =>
      intro o h
      refine ih _ fun x hx => ?_
      unfold vstep at hx
      split at hx
      · exact h x hx
      · split at hx
        · exact h x hx
        · rename_i hz _
          rcases List.mem_append.1 hx with hx | hx
          · exact h x hx
          · simp only [List.mem_singleton] at hx
            subst hx
            unfold ver at hz ⊢
            unfold stripe at hz ⊢
            split
            · omega
            · rename_i hh; rw [if_neg hh] at hz; exact absurd rfl hz
  exact key l [] (by simp)
theorem rlook_outm {l : List (Int × Int)} {x : Int} (h : ∀ p ∈ l, p.1 ≠ x) : rlook l x = 0 := by
  induction l with
  | nil => rfl
  | cons p r ih =>
    unfold rlook
    rw [if_neg (h p (by simp))]
    exact ih fun q hq => h q (by simp [hq])
theorem rlook_ne {q : Int × Int} {r : List (Int × Int)} {x : Int} (h : ¬ q.1 = x) : rlook (q :: r) x = rlook r x := by
  show (if q.1 = x then q.2 else rlook r x) = _; exact if_neg h
theorem rlook_snoc {l : List (Int × Int)} {p : Int × Int} (h : ∀ q ∈ l, q.1 ≠ p.1) : rlook (l ++ [p]) = upd (rlook l) p.1 p.2 := by
  funext x
  induction l with
  | nil =>
    by_cases hx : x = p.1
    · subst hx; simp [rlook, upd]
    · have h2 : ¬ p.1 = x := fun c => hx c.symm
      simp [rlook, upd, hx, h2]
  | cons q r ih =>
    have ih := ih fun z hz => h z (by simp [hz])
    have hq := h q (by simp)
    by_cases hx : x = p.1
    · subst hx
      simp only [List.cons_append, rlook]
      rw [if_neg hq, ih]; simp [upd]
    · by_cases hqx : q.1 = x
      · simp [rlook, upd, hx, hqx]
      · rw [List.cons_append, rlook_ne hqx, ih]; unfold upd; rw [if_neg hx, if_neg hx, rlook_ne hqx]
theorem rlook_take {l : List (Int × Int)} (h : Ris l) (i : Nat) (hi : i < l.length) : rlook (l.take (i + 1)) = upd (rlook (l.take i)) (l[i]).1 (l[i]).2 := by
  rw [List.take_add_one, List.getElem?_eq_getElem hi]
  refine rlook_snoc fun q hq => ?_
  obtain ⟨j, hj, rfl⟩ := List.mem_iff_getElem.1 hq
  rw [List.getElem_take]
  rw [List.length_take] at hj
  have := List.pairwise_iff_getElem.1 h j i (by omega) hi (by omega)
  omega
theorem twice_take (xs : List Int) (i : Nat) (hi : i < xs.length) : twice (xs.take (i + 1)) = upd (twice (xs.take i)) xs[i] 2 := by
  funext x
  rw [List.take_add_one, List.getElem?_eq_getElem hi]
  generalize xs[i] = y
  unfold twice upd
  by_cases hx : x = y
  · subst hx
    rw [if_pos rfl]; exact if_pos (List.mem_append.2 (.inr (by simp)))
  · rw [if_neg hx]
    simp [hx]
end Go.Proofs.Ytdabcnjjbfmkaaa

/-
  LooksTries: the walk.
-/
namespace Go.Proofs.Ytdabcnjjbfmkaaa
open Go.RowKit Go.Maps TagPure
set_option linter.unusedVariables false

abbrev TWc (wb cb : Nat) (W : World) : Prop := W.cell? ⟨wb, 0, none⟩ = some (.pointer (some ⟨cb, 0, none⟩))
theorem w64_sm (x : Int) (h : 0 ≤ x ∧ x < 100000) : wrap64 x = x := IntWalk.wrap64_in _ (by omega)
theorem u8_sm (x : Int) (h : 0 ≤ x ∧ x < 256) : IntKind.u8.wrap x = x := by rw [IntKind.wrap_u8]; omega
theorem init_val (t a : Int) : (CS.init [(2, t)]).val a = if a = 2 then t else 0 := by
  show upd (fun _ => (0 : Int)) 2 t a = _
  unfold upd; rfl
/-- What the walk asks of the plain law. -/
theorem tries_law (H t : Int) (L : List (Int × Int)) (hL : L = plist H t) (h0 : 0 ≤ H) (h1 : H < 18446744073709551616) (k : Nat) (hk : k < L.length) (hl2 : L.length ≤ 2) (n : Nat) (V : WV) (x : LK) (hV : V.nts = []) (hx : x.left = n) (hp : x.ph = .fst) (hh : x.h = H) :
    ∃ each : Nat, each = (if 0 < k ∧ ver (L.getD 0 (0, 0)).1 (L.getD 0 (0, 0)).2 ≠ ver (L.getD k (0, 0)).1 (L.getD k (0, 0)).2 then 3 else 2) ∧ vof [L.getD k (0, 0)] = [ver (L.getD k (0, 0)).1 (L.getD k (0, 0)).2] ∧
      ∀ m, each * (n + 1) ≤ m → (liter m V (marked (CS.init [(2, t)]) [ver (L.getD k (0, 0)).1 (L.getD k (0, 0)).2]) x).1 = each * (n + 1) ∧ (liter m V (marked (CS.init [(2, t)]) [ver (L.getD k (0, 0)).1 (L.getD k (0, 0)).2]) x).2.2.2.bad = true ∧
        (liter m V (marked (CS.init [(2, t)]) [ver (L.getD k (0, 0)).1 (L.getD k (0, 0)).2]) x).2.1.nts = trn V.hd each n 1 := by
  have hok : ∀ p ∈ L, POk12L p := by rw [hL]; exact plist_okL _ _ h0 h1
  have get : ∀ i, i < L.length → POk12L (L.getD i (0, 0)) := fun i hi => by
    rw [List.getD_eq_getElem?_getD, List.getElem?_eq_getElem hi]; exact hok _ (List.getElem_mem hi)
  have hpk := ver_ne (get k hk)
  have hp0 := ver_ne (get 0 (by omega))
  obtain ⟨vk, hvk⟩ : ∃ vk, vk = ver (L.getD k (0, 0)).1 (L.getD k (0, 0)).2 := ⟨_, rfl⟩
  obtain ⟨v0, hv0⟩ : ∃ v0, v0 = ver (L.getD 0 (0, 0)).1 (L.getD 0 (0, 0)).2 := ⟨_, rfl⟩
  rw [← hvk] at hpk ⊢
  rw [← hv0] at hp0 ⊢
  have hone : vof [L.getD k (0, 0)] = [vk] := by
    show vstep [] _ = _
    unfold vstep
    rw [← hvk, if_neg hpk]; rfl
  have b64 : ∀ i, i < L.length → 64 ≤ ver (L.getD i (0, 0)).1 (L.getD i (0, 0)).2 := fun i hi => by
    have := ver_ne (get i hi)
    unfold ver at this ⊢
    split
    · unfold stripe; omega
    · rename_i hh; rw [if_neg hh] at this; exact absurd rfl this
  have hb := b64 k hk
  rw [← hvk] at hb
  have hb0 := b64 0 (by omega)
  rw [← hv0] at hb0
  obtain ⟨s, hs⟩ : ∃ s, s = marked (CS.init [(2, t)]) [vk] := ⟨_, rfl⟩
  have hval : ∀ a, s.val a = if a = vk then 1 else if a = 2 then t else 0 := fun a => by
    rw [hs]
    show upd (CS.init [(2, t)]).val vk (wu ((CS.init [(2, t)]).val vk + 1)) a = _
    rw [init_val, if_neg (by omega)]
    unfold upd
    split
    · rfl
    · rw [init_val]
  have hcnt : s.cnt = 1 := by rw [hs]; rfl
  rw [← hs]
  -- the stripes
  have hS : vof (plist H t) = if L.length = 1 then [v0] else if v0 = ver (L.getD 1 (0, 0)).1 (L.getD 1 (0, 0)).2 then [v0] else [v0, ver (L.getD 1 (0, 0)).1 (L.getD 1 (0, 0)).2] := by
    rw [← hL]
    match L, hk, hl2, hv0, get with
    | [p], _, _, hv0, _ =>
      rw [if_pos (show [p].length = 1 from rfl)]
      show vstep [] p = _
      unfold vstep
      have : v0 = ver p.1 p.2 := hv0
      rw [← this, if_neg hp0]; rfl
    | [p, q], _, _, hv0, get =>
      rw [if_neg (by simp)]
      show vstep (vstep [] p) q = _
      have e0 : v0 = ver p.1 p.2 := hv0
      have e1 : vstep [] p = [v0] := by unfold vstep; rw [← e0, if_neg hp0]; rfl
      have hq : ver q.1 q.2 ≠ 0 := ver_ne (get 1 (by simp))
      rw [e1]
      show (if ver q.1 q.2 = 0 then [v0] else if [v0].contains (ver q.1 q.2) then [v0] else [v0] ++ [ver q.1 q.2]) = if v0 = ver q.1 q.2 then [v0] else [v0, ver q.1 q.2]
      rw [if_neg hq]
      by_cases e : v0 = ver q.1 q.2
      · rw [if_pos e, if_pos (by simp [e])]
      · rw [if_neg e, if_neg (by simp; exact fun c => e c.symm)]; rfl
  have ht : s.val 2 = t := by rw [hval, if_neg (by omega), if_pos rfl]
  by_cases hc : 0 < k ∧ v0 ≠ vk
  · rw [if_pos hc]
    have k1 : k = 1 := by omega
    subst k1
    rw [if_neg (by omega), ← hvk, if_neg hc.2] at hS
    refine ⟨3, rfl, hone, fun m hm => ?_⟩
    have := try_all H t [v0, vk] hS 1 (by simp) n V s x hx hp hh ht (by show s.val vk % 2 = 1; rw [hval, if_pos rfl]; decide) (fun i hi => by
      obtain rfl : i = 0 := by omega
      show ¬ s.val v0 % 2 = 1
      rw [hval, if_neg hc.2, if_neg (by omega)]; decide) m hm
    rw [hV, hcnt, List.nil_append] at this
    exact this
  · rw [if_neg hc]
    refine ⟨2, rfl, hone, fun m hm => ?_⟩
    have e : v0 = vk := by
      by_cases h : 0 < k
      · apply Classical.byContradiction; intro c; exact hc ⟨h, c⟩
      · obtain rfl : k = 0 := by omega
        exact hv0.trans hvk.symm
    have h0S : 0 < (vof (plist H t)).length := by rw [hS]; split; simp; split <;> simp
    have e0 : (vof (plist H t))[0]'h0S = vk := by
      have : (vof (plist H t))[0]? = some vk := by rw [hS, ← e]; split; rfl; split <;> rfl
      rw [List.getElem?_eq_getElem h0S] at this
      exact Option.some.inj this
    have := try_all H t (vof (plist H t)) rfl 0 h0S n V s x hx hp hh ht (by rw [e0, hval, if_pos rfl]; decide) (fun i hi => by omega) m hm
    rw [hV, hcnt, List.nil_append] at this
    exact this
/-- The world at first. -/
abbrev v0' (b : Int) : WV := v0 ⟨b, 8, 3, 1, 16⟩
theorem plist_two (H b : Int) (hb : 1 ≤ b ∧ b ≤ 12) : (plist H (tword b 0)).length ≤ 2 := by
  have h1 : asNow (tword b 0) = 0 := by rcases twelve hb with rfl | rfl | rfl | rfl | rfl | rfl | rfl | rfl | rfl | rfl | rfl | rfl <;> rfl
  unfold plist
  rw [h1, show pairOf H 0 = [] from if_pos rfl, List.append_nil]
  unfold pairOf
  split
  · exact Nat.zero_le _
  · have key : ∀ (l o : List (Int × Int)), (l.foldl (fun out p => if p ∈ out then out else out ++ [p]) o).length ≤ o.length + l.length := by
      intro l
      induction l with
      | nil => intro o; exact Nat.le_refl _
      | cons p l ih =>
        intro o
        rw [List.foldl_cons]
        refine Nat.le_trans (ih _) ?_
        simp only [List.length_cons]
        split
        · omega
        · simp only [List.length_append, List.length_singleton]; omega
    exact key [_, _] []

set_option maxRecDepth 100000 in
set_option maxHeartbeats 8000000 in
theorem tries_any (key : ByteArray) (hkm : key.size ≤ maxLen) (tr za zb : Int) (htr : 0 ≤ tr ∧ tr < 256) (hza : 0 ≤ za ∧ za < 256) (hzb : 0 ≤ zb ∧ zb < 256) (w : World) :
    Calls Try.prog 4 #[.string key, .int .u8 tr, .agg #[.int .u8 za, .int .u8 zb]] w fun e w' => e = .returned (.bool true) ∧ Below w.heap.size w w' := by
  unfold maxLen at hkm
  have hb0 := below_alloc w (.cells #[.int .u8 za, .int .u8 zb] 75)
  have hzz := heap_alloc_new w (.cells #[.int .u8 za, .int .u8 zb] 75)
  have HB := Lib.hid hb0; have HZ := Lib.hid hzz
  clear hb0 hzz
  obtain ⟨b, hb⟩ : ∃ b, b = 1 + za % 12 := ⟨_, rfl⟩
  have hb12 : 1 ≤ b ∧ b ≤ 12 := by omega
  have z1 : wrap64 za = za := w64_sm za (by omega)
  have z2 : za.tmod 12 = za % 12 := Int.tmod_eq_emod_of_nonneg hza.1
  have z3 : 1 + za % 12 = b := hb.symm
  have z4 : wrap64 b = b := w64_sm b (by omega)
  have hWD := world12v b hb12
  have HB12 := Lib.hid hb12; have HZAB := Lib.hid (And.intro htr hzb)
  clear hb hza hzb htr
  go_enter Try.func4, Try.ntmps4
  go_upto_region 1 with (fail)
  change Code.wp _ _ _ _ (w.alloc (.cells #[.int .u8 za, .int .u8 zb] 75))
  generalize w.alloc (.cells #[.int .u8 za, .int .u8 zb] 75) = w1 at *
  obtain ⟨zq, hzq⟩ : ∃ zq, zq = w.heap.size := ⟨_, rfl⟩
  rw [← hzq] at HZ
  simp only [← hzq]
  clear hzq
  have e0 : w1.cell? ⟨zq, 0, none⟩ = some (.int .u8 za) := hcell HZ.out 0
  go_upto_region 2 with (go_at_call 23; with_reducible refine (hWD w1).mono ?_; intro e w2 hh; obtain ⟨B, hh1, h2⟩ := hh; subst hh1; have H2 := Lib.hid h2; have Z2 := Lib.hid ((h2.below.block _ (Array.getElem?_eq_some_iff.1 HZ.out).1).trans HZ.out); clear h2 hWD e0 z1 z2 z3 z4)
  have HNA := Lib.hid (H2.out.below)
  by_cases hgt : (2000 : Int) < key.size
  · have hgt' : decide ((2000 : Int) < key.size) = true := decide_eq_true hgt
    clear hkm
    go_wp2_with (go_at_call 24; refine (lives14 _).mono ?_; intro e w13 hh; obtain ⟨hh1, b13⟩ := hh; subst hh1; have B13 := Lib.hid b13; clear b13)
    go_ret
    have h1 := HB.out.trans (HNA.out.mono HB.out.size)
    exact ⟨rfl, h1.trans (B13.out.mono h1.size)⟩
  have hgt' : decide ((2000 : Int) < key.size) = false := decide_eq_false hgt
  have HK6 := Lib.hid (show key.size ≤ 1000000 by omega)
  have t0 : CS.init [(2, tword b 0)] = CS.init [(2, tword b 0)] := rfl
  clear hkm
  obtain ⟨ha0, ha1⟩ := hfold_bd key key.size
  have ht2 : (CS.init [(2, tword b 0)]).val 2 = tword b 0 := by rw [init_val, if_pos rfl]
  have hwf := tword_wf b 0
  have hP := Lib.hid (fun W => places_any (hashOf key) (tword b 0) ha0 ha1 hwf W)
  have hH := Lib.hid (fun W => hash_any key HK6.out W)
  have hpk := Lib.hid (fun (W : World) (hW : Below w2.heap.size w2 W) => by have := (H2.out.keep hW).peek 2 (by decide); rw [ht2] at this; exact this)
  have HL2 := Lib.hid (plist_two (hashOf key) b HB12.out)
  have HL1 := Lib.hid (plist_posL (hashOf key) (tword b 0))
  have HOK := Lib.hid (plist_okL (hashOf key) (tword b 0) ha0 ha1)
  have HHB := Lib.hid (And.intro ha0 ha1)
  obtain ⟨L, hL⟩ : ∃ L, L = plist (hashOf key) (tword b 0) := ⟨_, rfl⟩
  rw [← hL] at hP HL2 HL1 HOK
  have HLE := Lib.hid hL
  have c0 := H2.out.c0
  clear hL ht2 hwf ha0 ha1 t0 hgt
  go_upto_region 4 with (fail)
  have hs1 : TWc B.wb B.cb w2.drew := c0
  clear c0
  go_region_held2 (fun W => TWc B.wb B.cb W) (assumption) (first
    | (go_at_call 26; refine (hH.out _).mono ?_; intro e w3 hh; obtain ⟨hh1, b3⟩ := hh; subst hh1; have B3 : Hid (Below w2.heap.size w2 w3) := (Below.refl w2.heap.size w2).drew.trans b3; have s3 : TWc B.wb B.cb w3 := (H2.out.keep B3.out).c0; have hpk3 := hpk.out w3 B3.out; clear b3 hs1)
    | (go_at_call 19; refine hpk3.mono ?_; intro e w' hh; obtain ⟨hh1, hh2⟩ := hh; subst hh1; obtain rfl := hh2.symm; clear hpk3)
    | (go_at_call 25; refine (hP.out _).mono ?_; intro e w4 hh; obtain ⟨pv, hh1, hp, b4⟩ := hh; subst hh1; have HPN := Lib.hid hp; have B4 := Lib.hid (B3.out.trans (b4.mono B3.out.size)); have s4 : TWc B.wb B.cb w4 := (H2.out.keep B4.out).c0; clear b4 hp s3 B3))
  have H4 := Lib.hid (H2.out.keep B4.out)
  have Z4 := Lib.hid ((B4.out.block _ (Array.getElem?_eq_some_iff.1 Z2.out).1).trans Z2.out)
  obtain ⟨ao, hpv⟩ := HPN.out.sl'
  subst hpv
  have HPL := Lib.hid (pln_at HPN.out)
  have HPN4 := Lib.hid (HPN.out.low (Nat.zero_le _))
  clear s4 HPN B4 hP hpk H2 Z2
  have hll := HL1.out
  have l0 : ((L.length : Int) == 0) = false := beq_eq_false_iff_ne.2 (by omega)
  have l00 : ¬ (L.length : Int) = 0 := by omega
  obtain ⟨k, hk⟩ : ∃ k : Nat, k = (zb % (L.length : Int)).toNat := ⟨_, rfl⟩
  have hzz := HZAB.out
  have hzm := Int.emod_nonneg zb (b := (L.length : Int)) (by omega)
  have hzl := Int.emod_lt_of_pos zb (b := (L.length : Int)) (by omega)
  have hkL : k < L.length := by omega
  obtain ⟨tn, htn⟩ : ∃ tn : Nat, tn = (tr % 17).toNat := ⟨_, rfl⟩
  have HTN := Lib.hid (show tn ≤ 16 by omega)
  have b1 : 0 ≤ zb ∧ zb < 100000 := by omega
  have b2 : 0 ≤ (k : Int) ∧ (k : Int) < 100000 := by have := HL2.out; omega
  have b3 : 0 ≤ (tn : Int) ∧ (tn : Int) < 100000 := by omega
  have b4 : 0 ≤ (tn : Int) ∧ (tn : Int) < 256 := by omega
  have y2 : zb.tmod (L.length : Int) = (k : Int) := by rw [Int.tmod_eq_emod_of_nonneg hzz.2.1]; omega
  have x1 : tr.tmod 17 = (tn : Int) := by rw [Int.tmod_eq_emod_of_nonneg hzz.1.1]; omega
  have y5 : (k : Int) < L.length := by omega
  have y6 : (0 : Int) ≤ k := by omega
  clear hk hzm hzl hzz htn
  have y1 : wrap64 zb = zb := w64_sm zb b1
  have y7 : wrap64 (k : Int) = (k : Int) := w64_sm _ b2
  have x2 : IntKind.u8.wrap (tn : Int) = (tn : Int) := u8_sm _ b4
  have x3 : wrap64 (tn : Int) = (tn : Int) := w64_sm _ b3
  clear b1 b2 b3 b4
  have e1 : w4.cell? ⟨zq, 1, none⟩ = some (.int .u8 zb) := hcell Z4.out 1
  obtain ⟨g, o, pb, pu, hao, hlk, g0, g1⟩ := HPL.out.at k hkL
  have HK := Lib.hid hkL; have HLK := Lib.hid hlk
  clear hkL hlk hll
  subst hao
  go_upto_region 8 with (fail)
  clear e1 y1 y2
  have hb5 := below_alloc w4 (.cells #[.int .i64 pb, .int .i64 pu] 44)
  have hz5 := heap_alloc_new w4 (.cells #[.int .i64 pb, .int .i64 pu] 44)
  have hNM := newmark_any [(pb, pu)] (some ⟨w4.heap.size, 0, none⟩) 1 (w4.alloc (.cells #[.int .i64 pb, .int .i64 pu] 44)) (plc_blk1 hz5) (by simp)
  have H5 := Lib.hid (H4.out.keep hb5)
  have PL5 := Lib.hid (HPN4.out.fr (below_fr hb5 (fun _ => false) false) rfl)
  clear hb5 hz5
  change Code.wp _ _ _ _ w4
  have hW9 : ∀ W mb, WS w1 W B (v0 ⟨b, 8, 3, 1, 16⟩) (CS.init [(2, tword b 0)]) → MarkAt W mb (vof [(pb, pu)]) → w1.heap.size ≤ mb → Calls Try.prog 27 #[.pointer (some ⟨B.wb, 0, none⟩), .iface 81 (.pointer (some ⟨mb, 0, none⟩)), .int .i64 9] W fun e w' => e = .returned (.int .i64 1) ∧ WS w1 w' B (v0 ⟨b, 8, 3, 1, 16⟩) (marked (CS.init [(2, tword b 0)]) [ver pb pu]) ∧ Fx wTy true mb W w' := fun W mb g1 g2 g3 => by
    have hp := HOK.out _ (List.mem_of_getElem? HLK.out)
    have hv : vof [(pb, pu)] = [ver pb pu] := by
      show vstep [] (pb, pu) = _
      unfold vstep
      rw [if_neg (ver_ne hp)]; rfl
    rw [hv] at g2
    have hb := vof_in64 (l := [(pb, pu)])
    rw [hv] at hb
    exact wmrun9 g1 1 (by have := CS.init_n [(2, tword b 0)]; constructor; (rw [this.1]; simp); (rw [this.2.1]; simp)) (by simp) g2 g3 (fun a ha => u64_small a (by have := hb a ha; omega)) (by simp)
  have HW9 := Lib.hid hW9
  clear hW9 H4 HPL
  go_upto_region 10 with (first
    | (go_at_call 28; refine hNM.mono ?_; intro e w6 hh; obtain ⟨mb, hh1, m6, l6, b6⟩ := hh; subst hh1; have H6 := Lib.hid (H5.out.keep b6); have PL6 := Lib.hid (PL5.out.fr (below_fr b6 (fun _ => false) false) rfl); have M6 := Lib.hid m6; have hr6 := HW9.out w6 mb H6.out m6 (by have := H5.out.slow; omega); clear m6 l6 b6 hNM)
    | (go_at_call 27; refine hr6.mono ?_; intro e w7 hh; obtain ⟨hh1, h7, f7⟩ := hh; subst hh1; have H7 := Lib.hid h7; have F7 := Lib.hid f7; clear h7 f7 hr6))
  clear HW9
  go_upto_region 12 with (fail)
  clear x1 x2
  have PL7 : Hid (PlN w7 0 (.slice (some ⟨g, o, none⟩) L.length L.length) L) := by
    obtain ⟨v, hv, -⟩ := M6.out
    exact PL6.out.fr (F7.out.fr hv) rfl
  have PP7 := pln_at PL7.out
  obtain ⟨g2, o2, qb, qu, hao2, hlk0, q0, q1⟩ := PP7.at 0 HL1.out
  obtain ⟨g3, o3, pb2, pu2, hao3, hlk3, r0, r1⟩ := PP7.at k HK.out
  simp only [Option.some.injEq, Addr.mk.injEq, and_true] at hao2 hao3
  obtain ⟨rfl, rfl⟩ := hao2
  obtain ⟨rfl, rfl⟩ := hao3
  obtain ⟨rfl, rfl⟩ : pb2 = pb ∧ pu2 = pu := by have := hlk3.symm.trans HLK.out; simpa using this
  obtain ⟨vz, hv0⟩ : ∃ vz, vz = ver qb qu := ⟨_, rfl⟩
  obtain ⟨vk, hvk⟩ : ∃ vk, vk = ver pb2 pu2 := ⟨_, rfl⟩
  obtain ⟨c, hc⟩ : ∃ c, c = (decide (0 < k) && (vz != vk)) := ⟨_, rfl⟩
  have HC := Lib.hid (And.intro hc (And.intro hv0 hvk)); have HLK0 := Lib.hid hlk0
  clear hlk3 hlk0 PP7
  simp only [Nat.zero_mul, Nat.add_zero] at q0 q1
  go_cut [76] (fun v76 wx => v76 = .bool c ∧ Below w7.heap.size w7 wx)
  case first =>
    by_cases hk0 : k = 0
    · subst hk0
      have hcf : c = false := by rw [hc]; rfl
      subst hcf
      clear hc hv0 hvk q0 q1 r0 r1
      go_region
      all_goals (try go_wp2_with fail)
      all_goals go_meet
      all_goals exact ⟨rfl, (Below.refl _ _).drew⟩
    · have hkp : decide ((0 : Int) < (k : Int)) = true := decide_eq_true (by omega)
      have hkp2 : decide (0 < k) = true := decide_eq_true (by omega)
      have hkk : (0 : Int) ≤ (k : Int) := by omega
      have hcc : c = (vz != vk) := by rw [hc, decide_eq_true (by omega : 0 < k)]; rfl
      have hkl : (k : Int) < L.length := by have := HK.out; omega
      have h0l : (0 : Int) < L.length := by have := HL1.out; omega
      have z0 := fun st : ExtW w7 => st.cell q0
      have z1 := fun st : ExtW w7 => st.cell q1
      have z2 := fun st : ExtW w7 => st.cell r0
      have z3 := fun st : ExtW w7 => st.cell r1
      have hva := fun {W : World} (st : ExtW W) => ver_any qb qu st.val
      have hvb := fun {W : World} (st : ExtW W) => ver_any pb2 pu2 st.val
      rw [← hv0] at hva
      rw [← hvk] at hvb
      have HCC := Lib.hid hcc
      clear hc hv0 hvk hcc hk0 q0 q1 r0 r1
      refine wp_region_ext (by kernel_rfl) (by kernel_rfl) ?_
      repeat (go_big_quiet_step (first
        | (go_at_call 29; with_reducible refine calls_ext (hva _))
        | (go_at_call 29; with_reducible refine calls_ext (hvb _))))
      refine wpQuiet_nil ?_
      rintro W ⟨⟨W2, hW⟩, rfl⟩
      clear z0 z1 z2 z3
      try go_wp2_with fail
      go_meet
      exact ⟨by rw [HCC.out], hW⟩
  case rest =>
    obtain ⟨rfl, hb8⟩ := hcut
    have HB8 := Lib.hid hb8
    clear hb8 q0 q1 r0 r1 hc hv0 hvk
    have hgk : L.getD k (0, 0) = (pb2, pu2) := by rw [List.getD_eq_getElem?_getD, HLK.out]; rfl
    have hg0 : L.getD 0 (0, 0) = (qb, qu) := by rw [List.getD_eq_getElem?_getD, HLK0.out]; rfl
    obtain ⟨X, hX⟩ : ∃ X : LK, X = ⟨key, hashOf key, tn, .fst, 0, [], [], 0, [], 0, 0, 0, false, 0⟩ := ⟨_, rfl⟩
    obtain ⟨each, heach, -, hlaw⟩ := tries_law (hashOf key) (tword b 0) L HLE.out HHB.out.1 HHB.out.2 k HK.out HL2.out tn (v0' b) X rfl (by rw [hX]) (by rw [hX]) (by rw [hX])
    rw [hgk, hg0] at heach
    rw [hgk] at hlaw
    simp only at heach hlaw
    have hec : (each : Int) = if c = true then 3 else 2 := by
      rw [heach, HC.out.1, HC.out.2.1, HC.out.2.2]
      by_cases h1 : 0 < k <;> by_cases h2 : ver qb qu = ver pb2 pu2 <;> simp [h1, h2]
    obtain ⟨s, hs⟩ : ∃ s, s = marked (CS.init [(2, tword b 0)]) [ver pb2 pu2] := ⟨_, rfl⟩
    rw [← hs] at hlaw
    have hsn : s.n ≤ 2 ∧ s.cnt ≤ 2 := by
      have h1 := CS.init_n [(2, tword b 0)]
      have h2 := marked_le (CS.init [(2, tword b 0)]) [ver pb2 pu2] 1 ⟨by rw [h1.1]; simp, by rw [h1.2.1]; simp⟩
      rw [hs]; simpa using h2
    obtain ⟨l1, l2, l3⟩ := hlaw 99 (by rw [heach]; have := HTN.out; split <;> omega)
    have H8 : Hid (WS w1 wc B (v0' b) s) := by rw [hs]; exact H7.out.keep HB8.out
    have hNL := newlook key HK6.out tn tn (by rw [if_neg (by omega)]) wc
    obtain ⟨V9, hV9⟩ : ∃ V9, V9 = (liter 99 (v0' b) s X).2.1 := ⟨_, rfl⟩
    obtain ⟨s9, hs9⟩ : ∃ s9, s9 = (liter 99 (v0' b) s X).2.2.1 := ⟨_, rfl⟩
    obtain ⟨x9, hx9⟩ : ∃ x9, x9 = (liter 99 (v0' b) s X).2.2.2 := ⟨_, rfl⟩
    have hrun : ∀ W fb, WS w1 W B (v0' b) s → LookE W w1.heap.size fb X → Calls Try.prog 27 #[.pointer (some ⟨B.wb, 0, none⟩), .iface 84 (.pointer (some ⟨fb, 0, none⟩)), .int .i64 99] W fun e w' => e = .returned (.int .i64 ((each : Int) * ((tn : Int) + 1))) ∧ WS w1 w' B V9 s9 ∧ LookE w' w1.heap.size fb x9 := fun W fb g1 g2 => by
      have := lrun 99 (by decide) 2 hsn (by unfold lim; decide) g1 g2 (by rw [hX]; exact LOk.new key tn (by have := HTN.out; omega) 0) (by show 0 ≤ _; omega) (by show 0 ≤ _; omega) (fun y hy => by cases hy)
      rw [l1, ← hV9, ← hs9, ← hx9] at this
      exact this.mono fun e w' hh => ⟨by rw [hh.1]; push_cast; rfl, hh.2⟩
    rw [← hx9] at l2
    rw [← hV9] at l3
    have HRUN := Lib.hid hrun; have HBAD := Lib.hid l2; have HNT := Lib.hid l3; have HEC := Lib.hid hec; have HX := Lib.hid hX
    have hn16 := HTN.out
    have p1 : 0 ≤ (tn : Int) + 1 ∧ (tn : Int) + 1 < 100000 := by omega
    have p2 : 0 ≤ 2 * ((tn : Int) + 1) ∧ 2 * ((tn : Int) + 1) < 100000 := by omega
    have p3 : 0 ≤ 3 * ((tn : Int) + 1) ∧ 3 * ((tn : Int) + 1) < 100000 := by omega
    clear hX heach hlaw hs hsn l1 l2 l3 hV9 hs9 hx9 hrun hgk hg0 hec H7 HB8 hn16
    have q1 := w64_sm _ p1
    have q2 := w64_sm _ p2
    have q3 := w64_sm _ p3
    clear p1 p2 p3
    cases c
    · rw [if_neg (by decide)] at HEC
      go_upto_region 15 with (go_at_call 30; refine hNL.mono ?_; intro e w9 hh; obtain ⟨fb, hh1, a9, b9⟩ := hh; subst hh1; have H9 := Lib.hid (H8.out.keep b9); have E9 : Hid (LookE w9 w1.heap.size fb X) := (by rw [HX.out]; exact (a9.lower H8.out.slow).e); have hr9 := HRUN.out w9 fb H9.out E9.out; clear a9 b9 hNL H8)
      rw [HEC.out] at hr9
      go_upto_region 17 with (first
        | (go_at_call 27; refine hr9.mono ?_; intro e w10 hh; obtain ⟨hh1, h10, e10⟩ := hh; subst hh1; have H10 := Lib.hid h10; have hfl := lfailsE e10; rw [HBAD.out] at hfl; have hct := lcount_any h10.nt; rw [HNT.out, trn_len] at hct; have c2 := h10.hd5.2.2.1; clear h10 e10 hr9 H9 E9 HRUN)
        | (go_at_call 31; refine hfl.mono ?_; intro e w11 hh; obtain ⟨hh1, hh2⟩ := hh; subst hh1; obtain rfl := hh2.symm; clear hfl)
        | (go_at_call 11; refine hct.mono ?_; intro e w11 hh; obtain ⟨hh1, hh2⟩ := hh; subst hh1; obtain rfl := hh2.symm; clear hct))
      have hal := lall_any H10.out.nt (by rw [HNT.out, trn_len]; have := HTN.out; omega)
      go_upto_region 19 with (go_at_call 16; refine hal.mono ?_; intro e w12 hh; obtain ⟨v, hh1, hr, b12⟩ := hh; subst hh1; have H12 := Lib.hid (H10.out.keep b12); rw [HNT.out] at hr; have R12 := Lib.hid hr; clear hr b12 hal c2)
      obtain ⟨av, hav⟩ : ∃ av, v = .slice av tn tn := by
        rcases R12.out with ⟨h1, h2⟩ | ⟨g9, cur9, h1, -⟩
        · have := congrArg List.length h2
          rw [trn_len] at this
          exact ⟨none, by rw [h1, this]; rfl⟩
        · rw [trn_len] at h1; exact ⟨_, h1⟩
      subst hav
      go_loopw [14] (fun i wr => ∃ j : Nat, j ≤ tn ∧ i = .int .i64 j ∧ wr = w12) (fun i _ => tn - (intOf i).toNat)
      case atStart => exact ⟨0, Nat.zero_le _, rfl, rfl⟩
      case round =>
        obtain ⟨j, hj, rfl, rfl⟩ := hrel
        by_cases hlt : j < tn
        · have hlt' : (j : Int) < tn := by omega
          have hj0 : (0 : Int) ≤ (j : Int) := by omega
          have HLT := Lib.hid hlt
          obtain ⟨g9, hg9, hcs⟩ := R12.out.at j (by rw [trn_len]; exact hlt)
          simp only [Value.slice.injEq] at hg9
          obtain ⟨rfl, -, -⟩ := hg9
          rw [trn_at] at hcs
          have s0 := hcs 0 (by decide)
          have s5 := hcs 7 (by decide)
          simp only [nteC, List.getElem?_cons_zero, List.getElem?_cons_succ, Nat.add_zero] at s0 s5
          have n16 := HTN.out
          have f1 : 0 ≤ (tn : Int) - 1 ∧ (tn : Int) - 1 < 100000 := by omega
          have f2 : 0 ≤ (tn : Int) - 1 - (j : Int) ∧ (tn : Int) - 1 - (j : Int) < 100000 := by omega
          have f3 : 0 ≤ (j : Int) + 1 ∧ (j : Int) + 1 < 100000 := by omega
          have f4 : 0 ≤ 2 * ((j : Int) + 1) ∧ 2 * ((j : Int) + 1) < 100000 := by omega
          have f5 : 0 ≤ 1 + 2 * ((j : Int) + 1) ∧ 1 + 2 * ((j : Int) + 1) < 100000 := by omega
          have v5 : ((tn - 1 - j : Nat) : Int) = (tn : Int) - 1 - (j : Int) := by omega
          have v0 : ((1 + each * (j + 1) : Nat) : Int) = 1 + 2 * ((j : Int) + 1) := by push_cast; rw [HEC.out]
          rw [v5] at s5
          rw [v0] at s0
          clear v5 v0 n16 hcs hj hlt
          have g1' := w64_sm _ f1
          have g2' := w64_sm _ f2
          have g3' := w64_sm _ f3
          have g4' := w64_sm _ f4
          have g5' := w64_sm _ f5
          clear f1 f2 f3 f4 f5
          go_wp2_with fail
          rw [g3']
          clear g1' g2' g3' g4' g5' q1 q2 q3
          refine ⟨⟨j + 1, HLT.out, by simp, trivial⟩, ?_⟩
          have := HLT.out
          simp [intOf]; omega
        · obtain rfl : j = tn := by omega
          go_wp2_with (go_at_call 24; refine (lives14 _).mono ?_; intro e w13 hh; obtain ⟨hh1, b13⟩ := hh; subst hh1; have B13 := Lib.hid b13; clear b13)
          go_ret
          have h1 := HB.out.trans (H12.out.below.mono HB.out.size)
          exact ⟨rfl, h1.trans (B13.out.mono h1.size)⟩
    · rw [if_pos rfl] at HEC
      go_upto_region 15 with (go_at_call 30; refine hNL.mono ?_; intro e w9 hh; obtain ⟨fb, hh1, a9, b9⟩ := hh; subst hh1; have H9 := Lib.hid (H8.out.keep b9); have E9 : Hid (LookE w9 w1.heap.size fb X) := (by rw [HX.out]; exact (a9.lower H8.out.slow).e); have hr9 := HRUN.out w9 fb H9.out E9.out; clear a9 b9 hNL H8)
      rw [HEC.out] at hr9
      go_upto_region 17 with (first
        | (go_at_call 27; refine hr9.mono ?_; intro e w10 hh; obtain ⟨hh1, h10, e10⟩ := hh; subst hh1; have H10 := Lib.hid h10; have hfl := lfailsE e10; rw [HBAD.out] at hfl; have hct := lcount_any h10.nt; rw [HNT.out, trn_len] at hct; have c2 := h10.hd5.2.2.1; clear h10 e10 hr9 H9 E9 HRUN)
        | (go_at_call 31; refine hfl.mono ?_; intro e w11 hh; obtain ⟨hh1, hh2⟩ := hh; subst hh1; obtain rfl := hh2.symm; clear hfl)
        | (go_at_call 11; refine hct.mono ?_; intro e w11 hh; obtain ⟨hh1, hh2⟩ := hh; subst hh1; obtain rfl := hh2.symm; clear hct))
      have hal := lall_any H10.out.nt (by rw [HNT.out, trn_len]; have := HTN.out; omega)
      go_upto_region 19 with (go_at_call 16; refine hal.mono ?_; intro e w12 hh; obtain ⟨v, hh1, hr, b12⟩ := hh; subst hh1; have H12 := Lib.hid (H10.out.keep b12); rw [HNT.out] at hr; have R12 := Lib.hid hr; clear hr b12 hal c2)
      obtain ⟨av, hav⟩ : ∃ av, v = .slice av tn tn := by
        rcases R12.out with ⟨h1, h2⟩ | ⟨g9, cur9, h1, -⟩
        · have := congrArg List.length h2
          rw [trn_len] at this
          exact ⟨none, by rw [h1, this]; rfl⟩
        · rw [trn_len] at h1; exact ⟨_, h1⟩
      subst hav
      go_loopw [14] (fun i wr => ∃ j : Nat, j ≤ tn ∧ i = .int .i64 j ∧ wr = w12) (fun i _ => tn - (intOf i).toNat)
      case atStart => exact ⟨0, Nat.zero_le _, rfl, rfl⟩
      case round =>
        obtain ⟨j, hj, rfl, rfl⟩ := hrel
        by_cases hlt : j < tn
        · have hlt' : (j : Int) < tn := by omega
          have hj0 : (0 : Int) ≤ (j : Int) := by omega
          have HLT := Lib.hid hlt
          obtain ⟨g9, hg9, hcs⟩ := R12.out.at j (by rw [trn_len]; exact hlt)
          simp only [Value.slice.injEq] at hg9
          obtain ⟨rfl, -, -⟩ := hg9
          rw [trn_at] at hcs
          have s0 := hcs 0 (by decide)
          have s5 := hcs 7 (by decide)
          simp only [nteC, List.getElem?_cons_zero, List.getElem?_cons_succ, Nat.add_zero] at s0 s5
          have n16 := HTN.out
          have f1 : 0 ≤ (tn : Int) - 1 ∧ (tn : Int) - 1 < 100000 := by omega
          have f2 : 0 ≤ (tn : Int) - 1 - (j : Int) ∧ (tn : Int) - 1 - (j : Int) < 100000 := by omega
          have f3 : 0 ≤ (j : Int) + 1 ∧ (j : Int) + 1 < 100000 := by omega
          have f4 : 0 ≤ 3 * ((j : Int) + 1) ∧ 3 * ((j : Int) + 1) < 100000 := by omega
          have f5 : 0 ≤ 1 + 3 * ((j : Int) + 1) ∧ 1 + 3 * ((j : Int) + 1) < 100000 := by omega
          have v5 : ((tn - 1 - j : Nat) : Int) = (tn : Int) - 1 - (j : Int) := by omega
          have v0 : ((1 + each * (j + 1) : Nat) : Int) = 1 + 3 * ((j : Int) + 1) := by push_cast; rw [HEC.out]
          rw [v5] at s5
          rw [v0] at s0
          clear v5 v0 n16 hcs hj hlt
          have g1' := w64_sm _ f1
          have g2' := w64_sm _ f2
          have g3' := w64_sm _ f3
          have g4' := w64_sm _ f4
          have g5' := w64_sm _ f5
          clear f1 f2 f3 f4 f5
          go_wp2_with fail
          rw [g3']
          clear g1' g2' g3' g4' g5' q1 q2 q3
          refine ⟨⟨j + 1, HLT.out, by simp, trivial⟩, ?_⟩
          have := HLT.out
          simp [intOf]; omega
        · obtain rfl : j = tn := by omega
          go_wp2_with (go_at_call 24; refine (lives14 _).mono ?_; intro e w13 hh; obtain ⟨hh1, b13⟩ := hh; subst hh1; have B13 := Lib.hid b13; clear b13)
          go_ret
          have h1 := HB.out.trans (H12.out.below.mono HB.out.size)
          exact ⟨rfl, h1.trans (B13.out.mono h1.size)⟩
theorem leaves_arr2t : leaves Try.prog 4 75 = some [Leaf.int IntKind.u8, Leaf.int IntKind.u8] := by kernel_rfl
set_option maxRecDepth 100000 in
theorem arr2_opent {H : Type} {w : World} {enc : TypeId × Value → H} {base : Nat} {v : Value} {d : DataW H} {p : List MemPlace} (k : DataW.Trod enc Try.prog w 0 (fun _ => true) true 75 v d p) (o : Value.okWide Try.prog w .any base 75 v) : ∃ a b : Int, v = .agg #[.int .u8 a, .int .u8 b] ∧ (0 ≤ a ∧ a < 256) ∧ (0 ≤ b ∧ b < 256) := by
  obtain ⟨cs, rfl⟩ := okWide_array Try.underlying75 o
  have h := opened leaves_arr2t k
  obtain ⟨c0, r, h0, g0, h⟩ := allHold_cons h
  obtain ⟨c1, r, rfl, g1, h⟩ := allHold_cons h
  obtain rfl := allHold_nil h
  obtain ⟨a, rfl, wa⟩ := holds_int g0
  obtain ⟨b, rfl, wb⟩ := holds_int g1
  refine ⟨a, b, ?_, u8_nn wa, u8_nn wb⟩
  have e : cs = #[.int .u8 a, .int .u8 b] := Array.toList_inj.1 h0
  rw [e]
set_option maxRecDepth 100000 in
theorem walkLooksTries {H1 : Type} (w : World) (key : ByteArray) (hk : key.size ≤ maxLen) (tr : Int) (htr : (Lit.int .u8 tr).wf = true) (enc : TypeId × Value → H1) (base : Nat) (v : Value) (d : DataW H1) (p : List MemPlace) (k : DataW.Trod enc Try.prog w 0 (fun _ => true) true 75 v d p) (o : Value.okWide Try.prog w .any base 75 v) :
    Calls Try.prog 4 #[.string key, .int .u8 tr, v] w fun e w' => e = .returned (.bool true) ∧ Below w.heap.size w w' := by
  obtain ⟨a, b, rfl, ha, hb⟩ := arr2_opent k o
  exact tries_any key hk tr a b (u8_nn htr) ha hb w
end Go.Proofs.Ytdabcnjjbfmkaaa
