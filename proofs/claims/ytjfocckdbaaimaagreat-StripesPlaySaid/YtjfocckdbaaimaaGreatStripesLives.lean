/-
  Layer 12's example.
-/
import Derived.Test.YtjfocckdbaaimaaGreatMark
namespace Go.Proofs.YtjfocckdbaaimaaGreat
open Go.RowKit Go.Maps
set_option linter.unusedVariables false

theorem world12 (b : Int) (hb : 1 ≤ b ∧ b ≤ 12) {w0 w : World} (hB : Below w0.heap.size w0 w) : Calls Tryz.prog 85 #[.int .i64 b] w fun e w' => ∃ wb cb s, e = .returned (.pointer (some ⟨wb, 0, none⟩)) ∧ Wld w0 w' wb cb ⟨b, 8, 3, 1, 16⟩ s ∧ New1 b s ∧ Below w.heap.size w w' := by
  have hn1 : Calls Tryz.prog 62 #[.agg #[.int .i64 b, .int .i64 8, .int .i64 3, .int .i64 1, .int .i64 16]] w fun e w' => ∃ wb cb s, e = .returned (.tuple #[.pointer (some ⟨wb, 0, none⟩), .int .i64 0]) ∧ Wld w0 w' wb cb ⟨b, 8, 3, 1, 16⟩ s ∧ New1 b s ∧ Below w.heap.size w w' :=
    new_wld hB ⟨b, 8, 3, 1, 16⟩ (by simp [Conf.ok]; omega)
  clear hb
  go_enter Tryz.func85, Tryz.ntmps85
  go_wp2_with (go_at_call 62; with_reducible refine hn1.mono ?_; rintro e w1 ⟨wb, cb, s, rfl, h1, n1, b1⟩)
  go_ret
  exact ⟨_, _, s, rfl, h1, n1, b1⟩

/-- Cells behind a Mark's steps. -/
def marked (s : CS) (xs : List Int) : CS := xs.foldl (fun s a => s.acc 4 a (wu (s.val a + 1))) s
theorem marked_le (s : CS) (xs : List Int) (m : Nat) (h : s.n ≤ m ∧ s.cnt ≤ m) : (marked s xs).n ≤ m + xs.length ∧ (marked s xs).cnt ≤ m + xs.length := by
  unfold marked
  induction xs generalizing s m with
  | nil => exact h
  | cons x r ih =>
    have := ih (s.acc 4 x (wu (s.val x + 1))) (m + 1) (room_acc m h)
    simp only [List.foldl_cons, List.length_cons]; omega
theorem marked_take {xs : List Int} {k : Nat} {a : Int} (s : CS) (h : xs[k]? = some a) : marked s (xs.take (k + 1)) = (marked s (xs.take k)).acc 4 a (wu ((marked s (xs.take k)).val a + 1)) := by
  unfold marked; rw [List.take_add_one, h, List.foldl_append]; rfl

set_option maxHeartbeats 1000000 in
theorem run_any {w0 w : World} {wb cb mb : Nat} {c : Conf} {s : CS} {xs : List Int} (h : Wld w0 w wb cb c s) (m : Nat) (hr : s.n ≤ m ∧ s.cnt ≤ m) (hm : m + xs.length < lim) (hM : MarkAt w mb xs) (hlo : w0.heap.size ≤ mb) (hx : ∀ a ∈ xs, (Lit.int .u64 a).wf = true) (most : Int) (hmost : (xs.length : Int) ≤ most) :
    Calls Tryz.prog 25 #[.pointer (some ⟨wb, 0, none⟩), .iface 84 (.pointer (some ⟨mb, 0, none⟩)), .int .i64 most] w fun e w' => e = .returned (.int .i64 xs.length) ∧ Wld w0 w' wb cb c (marked s xs) ∧ MarkAt w' mb [] := by
  have H := Lib.hid h; have HR := Lib.hid hr; have HM := Lib.hid hm; have HMA := Lib.hid hM; have HX := Lib.hid hx
  unfold lim at hm
  clear h hr hM hx
  go_enter Tryz.func25, Tryz.ntmps25
  go_wp2
  go_loopw [7] (fun i wr => ∃ k : Nat, k ≤ xs.length ∧ i = .int .i64 k ∧ Wld w0 wr wb cb c (marked s (xs.take k)) ∧ MarkAt wr mb (xs.drop k)) (fun i _ => xs.length - (intOf i).toNat)
  case atStart => exact ⟨0, by omega, rfl, H.out, HMA.out⟩
  case round =>
    obtain ⟨k, hk, rfl, h1, h2⟩ := hrel
    by_cases hlt : k < xs.length
    · have hd := List.drop_eq_getElem_cons hlt
      have hk1 := marked_take s (List.getElem?_eq_getElem hlt)
      have ha := HX.out _ (List.getElem_mem hlt)
      rw [hd] at h2
      generalize xs[k] = a at *
      have hov := over_any h2
      rw [show decide (a :: xs.drop (k + 1) = []) = false from rfl] at hov
      have hkl : (k : Int) < most := by omega
      have hl := marked_le s (xs.take k) m HR.out
      rw [List.length_take] at hl
      have hst := mstep_any h1 (CS.room_of (m + xs.length) ⟨by omega, by omega⟩ HM.out) h2 hlo ha
      have HK := Lib.hid hk1
      clear hd hk1 ha hl h1 h2
      go_wp2_with (first
        | (go_at_call 33; refine hov.mono ?_; rintro e w2 ⟨rfl, hw⟩; obtain rfl := hw.symm)
        | (go_at_call 36; refine hst.mono ?_; rintro e w3 ⟨rfl, g1, g2, -⟩))
      exact ⟨⟨k + 1, by omega, by go_num, by rw [HK.out]; exact g1, g2⟩, by simp [intOf]; omega⟩
    · obtain rfl : k = xs.length := by omega
      rw [List.drop_length] at h2
      rw [List.take_length] at h1
      have hov := over_any h2
      have H1 := Lib.hid h1; have H2 := Lib.hid h2
      clear h1 h2
      by_cases hkl : (xs.length : Int) < most
      · go_wp2_with (go_at_call 33; refine hov.mono ?_; rintro e w2 ⟨rfl, hw⟩; obtain rfl := hw.symm)
        go_ret
        exact ⟨rfl, H1.out, H2.out⟩
      · go_wp2
        go_ret
        exact ⟨rfl, H1.out, H2.out⟩

theorem marked95 (s : CS) (h : s.val 95 = 0) : (marked s [95, 96]).val 95 = 1 := by
  simp [marked, CS.acc, upd, h]; decide
theorem marked96 (s : CS) (h : s.val 96 = 0) : (marked s [95, 96]).val 96 = 1 := by
  simp [marked, CS.acc, upd, h]; decide
theorem plc_three (w : World) (a0 a1 b0 b1 c0 c1 : Int) : Plc (w.alloc (.cells #[.int .i64 a0, .int .i64 a1, .int .i64 b0, .int .i64 b1, .int .i64 c0, .int .i64 c1] 41)) (some ⟨w.heap.size, 0, none⟩) 3 [(a0, a1), (b0, b1), (c0, c1)] := by
  have hq := heap_alloc_new w (.cells #[.int .i64 a0, .int .i64 a1, .int .i64 b0, .int .i64 b1, .int .i64 c0, .int .i64 c1] 41)
  have k : ∀ o, (w.alloc (.cells #[.int .i64 a0, .int .i64 a1, .int .i64 b0, .int .i64 b1, .int .i64 c0, .int .i64 c1] 41)).cell? ⟨w.heap.size, o, none⟩ = (#[.int .i64 a0, .int .i64 a1, .int .i64 b0, .int .i64 b1, .int .i64 c0, .int .i64 c1] : Array Value)[o]? := fun o => by
    unfold World.cell?; simp only; rw [hq]; rfl
  refine ⟨by simp, by unfold maxLen; omega, fun h => by simp at h, .inr ⟨_, 0, rfl, fun i hi => ?_⟩⟩
  have : i = 0 ∨ i = 1 ∨ i = 2 := by simp at hi; omega
  rcases this with rfl | rfl | rfl <;> (rw [k, k]; exact ⟨rfl, rfl⟩)

set_option maxRecDepth 10000 in
set_option maxHeartbeats 1000000 in
theorem lives12 (w : World) : Calls Tryz.prog 26 #[] w fun e w' => e = .returned (.bool true) ∧ Below w.heap.size w w' := by
  have hw := world12 1 (by omega) (Below.refl w.heap.size w)
  have hv : vof [(1, 0), (1, 1), (1, 0)] = [95, 96] := by decide
  have HV := Lib.hid hv
  clear hv
  go_enter Tryz.func26, Tryz.ntmps26
  go_wp2_with (first
    | (go_at_call 85; with_reducible refine hw.mono ?_; rintro e w1 ⟨wb, cb, s, rfl, h1, n1, b1⟩; clear hw)
    | (go_at_call 29; refine (newmark_any [(1, 0), (1, 1), (1, 0)] _ _ _ (plc_three w1 1 0 1 1 1 0) (by decide)).mono ?_; rw [HV.out]; rintro e w2 ⟨mb, rfl, h2, l2, b2⟩))
  have hk := h1.keep (bnext (below_alloc w1 _) b2)
  have hlo : w.heap.size ≤ mb := by have := b1.size; simp at l2; omega
  have hv1 := marked95 s (n1.vo 95 (by decide))
  have hv2 := marked96 s (n1.vo 96 (by decide))
  have hrun := run_any hk 1 n1.le (by unfold lim; decide) h2 hlo (by decide) 9 (by decide)
  clear h1 h2 b2 l2 n1 b1 hlo hk
  have H1 := Lib.hid hv1; have H2 := Lib.hid hv2
  clear hv1 hv2
  go_wp2_with (first
    | (go_at_call 25; with_reducible refine hrun.mono ?_; rintro e w3 ⟨rfl, h3, -⟩; clear hrun; have c0 := h3.cell.1; have hp1 := peek_own h3.own 95 (by decide); have hp2 := peek_own h3.own 96 (by decide); rw [H1.out] at hp1; rw [H2.out] at hp2)
    | (go_at_call 30; with_reducible refine hp1.mono ?_; rintro e w4 ⟨rfl, hw⟩; obtain rfl := hw.symm; clear hp1)
    | (go_at_call 30; with_reducible refine hp2.mono ?_; rintro e w4 ⟨rfl, hw⟩; obtain rfl := hw.symm))
  go_ret
  exact ⟨rfl, h3.own.below⟩
end Go.Proofs.YtjfocckdbaaimaaGreat

