/-
  Texts of this prover, merged: StripesNil, StripesLives, StripesVoid.
-/
import Derived.Test.YtddflihgadlafaaGreatStripesRef
import Derived.Test.YtddflihgadlafaaGreatM2
import Derived.Test.YtddflihgadlafaaGreatBegin0
import Derived.Test.YtddflihgadlafaaGreatMark
import Derived.Test.YtddflihgadlafaaGreatOpen
import Derived.Deep.DeepCutAuto
import Derived.Deep.CutBlock
/-
  Stripes: Marks that are not there, that are over, that have no world; the document's Mark.
-/
namespace Go.Proofs.YtddflihgadlafaaGreat
open Go.RowKit Go.Maps
set_option linter.unusedVariables false

theorem mover_nil (w : World) : Calls Tryz.prog 44 #[.pointer none] w fun e w' => e = .returned (.bool true) ∧ w' = w := by
  go_enter Tryz.func44, Tryz.ntmps44
  go_wp2
  go_ret
  exact ⟨rfl, rfl⟩
theorem mstep_nil (v : Value) (w : World) : Calls Tryz.prog 45 #[.pointer none, v] w fun e w' => e = .returned (.bool true) ∧ w' = w := by
  go_enter Tryz.func45, Tryz.ntmps45
  go_wp2_with (go_at_call 44; refine (mover_nil _).mono ?_; rintro e w1 ⟨rfl, hw⟩; obtain rfl := hw.symm)
  go_ret
  exact ⟨rfl, rfl⟩
theorem mstep_void {w : World} {mb : Nat} (h : MarkAt w mb []) (v : Value) : Calls Tryz.prog 45 #[.pointer (some ⟨mb, 0, none⟩), v] w fun e w' => e = .returned (.bool true) ∧ w' = w := by
  have ho := over_any h
  rw [show decide (([] : List Int) = []) = true from rfl] at ho
  clear h
  go_enter Tryz.func45, Tryz.ntmps45
  go_wp2_with (go_at_call 44; refine ho.mono ?_; rintro e w1 ⟨rfl, hw⟩; obtain rfl := hw.symm)
  go_ret
  exact ⟨rfl, rfl⟩
theorem mstep_no {w : World} {mb : Nat} {a : Int} {r : List Int} (h : MarkAt w mb (a :: r)) : Calls Tryz.prog 45 #[.pointer (some ⟨mb, 0, none⟩), .pointer none] w fun e w' => e = .returned (.bool false) ∧ w' = w := by
  have ho := over_any h
  rw [show decide (a :: r = []) = false from rfl] at ho
  clear h
  go_enter Tryz.func45, Tryz.ntmps45
  go_wp2_with (go_at_call 44; refine ho.mono ?_; rintro e w1 ⟨rfl, hw⟩; obtain rfl := hw.symm)
  go_ret
  exact ⟨rfl, rfl⟩
/-- A Mark that is over, or none. -/
def VMark (w : World) (v : Value) : Prop := v = .pointer none ∨ ∃ b, v = .pointer (some ⟨b, 0, none⟩) ∧ MarkAt w b []
theorem MarkAt.lt {w : World} {mb : Nat} {xs : List Int} (h : MarkAt w mb xs) : mb < w.heap.size := by obtain ⟨v, h1, _⟩ := h; exact (Array.getElem?_eq_some_iff.1 h1).1
theorem VMark.below {w w' : World} {v : Value} (h : VMark w v) (hb : Below w.heap.size w w') : VMark w' v := by
  rcases h with rfl | ⟨b, rfl, h⟩
  · exact .inl rfl
  · exact .inr ⟨b, rfl, h.keep hb⟩
theorem Sl.fr {K : TypeId → Bool} {mp : Bool} {w w' : World} {v : Value} {xs : List Int} (h : Sl w v xs) (hf : Fr K mp w w') (h2 : K 44 = false) : Sl w' v xs := by
  rcases h with h | ⟨g, off, cur, rfl, h3, h4⟩
  · exact .inl h
  · exact .inr ⟨g, off, cur, rfl, hf.cells _ _ _ _ h3 h2, h4⟩
theorem MarkAt.fr {K : TypeId → Bool} {mp : Bool} {w w' : World} {mb : Nat} {xs : List Int} (h : MarkAt w mb xs) (hf : Fr K mp w w') (h1 : K 104 = false) (h2 : K 44 = false) : MarkAt w' mb xs := by
  obtain ⟨v, h3, h4⟩ := h
  exact ⟨v, hf.cells _ _ _ _ h3 h1, h4.fr hf h2⟩
theorem VMark.fr {K : TypeId → Bool} {mp : Bool} {w w' : World} {v : Value} (h : VMark w v) (hf : Fr K mp w w') (h1 : K 104 = false) (h2 : K 44 = false) : VMark w' v := by
  rcases h with rfl | ⟨b, rfl, h⟩
  · exact .inl rfl
  · exact .inr ⟨b, rfl, h.fr hf h1 h2⟩
theorem VMark.over {w : World} {v : Value} (h : VMark w v) : Calls Tryz.prog 44 #[v] w fun e w' => e = .returned (.bool true) ∧ w' = w := by
  rcases h with rfl | ⟨b, rfl, h⟩
  · exact mover_nil w
  · exact over_any h
theorem VMark.step {w : World} {v : Value} (u : Value) (h : VMark w v) : Calls Tryz.prog 45 #[v, u] w fun e w' => e = .returned (.bool true) ∧ w' = w := by
  rcases h with rfl | ⟨b, rfl, h⟩
  · exact mstep_nil u w
  · exact mstep_void h u
theorem plc_nil (w : World) : Plc w none 0 [] := ⟨Nat.le_refl _, Nat.zero_le _, fun _ => rfl, .inl rfl⟩
theorem plc_one (w : World) (a0 a1 : Int) : Plc (w.alloc (.cells #[.int .i64 a0, .int .i64 a1] 41)) (some ⟨w.heap.size, 0, none⟩) 1 [(a0, a1)] := by
  refine ⟨Nat.le_refl _, by unfold maxLen; decide, fun h => (by cases h), .inr ⟨_, 0, rfl, fun i hi => ?_⟩⟩
  have z := heap_alloc_new w (.cells #[.int .i64 a0, .int .i64 a1] 41)
  obtain rfl : i = 0 := by simp at hi; exact hi
  exact ⟨hcell z 0, hcell z 1⟩
theorem plc_two (w : World) (a0 a1 b0 b1 : Int) : Plc (w.alloc (.cells #[.int .i64 a0, .int .i64 a1, .int .i64 b0, .int .i64 b1] 41)) (some ⟨w.heap.size, 0, none⟩) 2 [(a0, a1), (b0, b1)] := by
  refine ⟨Nat.le_refl _, by unfold maxLen; decide, fun h => (by cases h), .inr ⟨_, 0, rfl, fun i hi => ?_⟩⟩
  have z := heap_alloc_new w (.cells #[.int .i64 a0, .int .i64 a1, .int .i64 b0, .int .i64 b1] 41)
  rcases i with _ | _ | i
  · exact ⟨hcell z 0, hcell z 1⟩
  · exact ⟨hcell z 2, hcell z 3⟩
  · simp at hi; omega
/-- The document's Mark. -/
def RMarkAt (w : World) (base rb : Nat) (all : List Int) (at_ : Nat) : Prop := ∃ v, w.heap[rb]? = some (.cells #[.int .i64 (if at_ < all.length then 1 else 0), v, .int .i64 at_] 109 (0, 0)) ∧ w.ownsRow base 44 1 v all.length (cu all)
theorem RMarkAt.fr {K : TypeId → Bool} {mp : Bool} {w w' : World} {base rb : Nat} {all : List Int} {at_ : Nat} (h : RMarkAt w base rb all at_) (hf : Fr K mp w w') (h1 : K 109 = false) (h2 : K 44 = false) : RMarkAt w' base rb all at_ := by
  obtain ⟨v, h3, h4⟩ := h
  exact ⟨v, hf.cells _ _ _ _ h3 h1, own_fr h4 hf h2⟩
theorem rnewmark_any (l : List (Int × Int)) (ao : Option Addr) (cap : Nat) (w : World) (h : Plc w ao cap l) (hsz : l.length ≤ 1000000) : Calls Tryz.prog 43 #[.slice ao l.length cap] w
    fun e w' => ∃ rb, e = .returned (.pointer (some ⟨rb, 0, none⟩)) ∧ RMarkAt w' w.heap.size rb (vof l) 0 ∧ w.heap.size ≤ rb ∧ Below w.heap.size w w' := by
  have ho := rof_any l ao cap w h hsz
  have hl := vof_len l
  generalize vof l = xs at *
  have HL : Hid (xs.length ≤ 1000000) := Nat.le_trans hl hsz
  clear h hl hsz
  go_enter Tryz.func43, Tryz.ntmps43
  go_upto_region 2 with (go_at_call 107; refine ho.mono ?_; rintro e w1 ⟨v, rfl, h1, h2⟩; obtain ⟨a1, cap1, hv⟩ := own_sl h1; subst hv; have H1 := Lib.hid h1; have H2 := Lib.hid h2; clear h1 h2 ho)
  have hb := below_alloc w1 (.cells #[.int .i64 0, .slice a1 xs.length cap1, .int .i64 0] 109)
  have z := heap_alloc_new w1 (.cells #[.int .i64 0, .slice a1 xs.length cap1, .int .i64 0] 109)
  have HR := Lib.hid (own_fr H1.out (below_fr hb (fun _ => false) false) rfl)
  have HB : Hid (Below w.heap.size w (w1.alloc (.cells #[.int .i64 0, .slice a1 xs.length cap1, .int .i64 0] 109))) := H2.out.trans (hb.mono H2.out.size)
  have HSZ : Hid (w.heap.size ≤ w1.heap.size) := H2.out.size
  change Code.wp _ _ _ _ (w1.alloc (.cells #[.int .i64 0, .slice a1 xs.length cap1, .int .i64 0] 109))
  generalize w1.alloc (.cells #[.int .i64 0, .slice a1 xs.length cap1, .int .i64 0] 109) = w2 at *
  generalize w1.heap.size = rb at *
  have c0 := hcell z 0
  have c1 := hcell z 1
  have cf := hfrz z 0
  have Z := Lib.hid z
  clear hb z H1 H2
  by_cases h0 : 0 < xs.length
  · have d0 : decide ((0 : Int) < xs.length) = true := decide_eq_true (by omega)
    have hl := HL.out
    go_wp2
    go_ret
    have hk := setCell_keeps w2 rb 0 (.int .i64 1)
    have hf : Fr (fun T => T == 109) false w2 (w2.setCell ⟨rb, 0, none⟩ (.int .i64 1)) := keeps_fr hk _ _ fun k e => ⟨_, _, _, e ▸ Z.out, rfl⟩
    refine ⟨rb, rfl, ⟨.slice a1 xs.length cap1, ?_, own_fr HR.out hf rfl⟩, HSZ.out, keeps_below hk HB.out HB.out.size fun k e => e ▸ HSZ.out⟩
    rw [if_pos h0]
    exact setCell_same Z.out 0 (.int .i64 1)
  · have d0 : decide ((0 : Int) < xs.length) = false := decide_eq_false (by omega)
    have hl := HL.out
    go_wp2
    go_ret
    refine ⟨rb, rfl, ⟨.slice a1 xs.length cap1, ?_, HR.out⟩, HSZ.out, HB.out⟩
    rw [if_neg h0]
    exact Z.out
theorem newmark_nil (w : World) : Calls Tryz.prog 42 #[.slice none 0 0] w fun e w' => ∃ mb, e = .returned (.pointer (some ⟨mb, 0, none⟩)) ∧ MarkAt w' mb [] ∧ w.heap.size ≤ mb ∧ Below w.heap.size w w' :=
  newmark_any [] none 0 w (plc_nil w) (by decide)
theorem plc_blk1 {w : World} {n : Nat} {a0 a1 : Int} (h : w.heap[n]? = some (.cells #[.int .i64 a0, .int .i64 a1] 41 (0, 0))) : Plc w (some ⟨n, 0, none⟩) 1 [(a0, a1)] := by
  refine ⟨Nat.le_refl _, by unfold maxLen; decide, fun h => (by cases h), .inr ⟨_, 0, rfl, fun i hi => ?_⟩⟩
  obtain rfl : i = 0 := by simp at hi; exact hi
  exact ⟨hcell h 0, hcell h 1⟩
theorem plc_blk2 {w : World} {n : Nat} {a0 a1 b0 b1 : Int} (h : w.heap[n]? = some (.cells #[.int .i64 a0, .int .i64 a1, .int .i64 b0, .int .i64 b1] 41 (0, 0))) : Plc w (some ⟨n, 0, none⟩) 2 [(a0, a1), (b0, b1)] := by
  refine ⟨Nat.le_refl _, by unfold maxLen; decide, fun h => (by cases h), .inr ⟨_, 0, rfl, fun i hi => ?_⟩⟩
  rcases i with _ | _ | i
  · exact ⟨hcell h 0, hcell h 1⟩
  · exact ⟨hcell h 2, hcell h 3⟩
  · simp at hi; omega
theorem newmark_one {w : World} {n : Nat} {a0 a1 : Int} (h : w.heap[n]? = some (.cells #[.int .i64 a0, .int .i64 a1] 41 (0, 0))) : Calls Tryz.prog 42 #[.slice (some ⟨n, 0, none⟩) 1 1] w fun e w' => ∃ mb, e = .returned (.pointer (some ⟨mb, 0, none⟩)) ∧ MarkAt w' mb (vof [(a0, a1)]) ∧ w.heap.size ≤ mb ∧ Below w.heap.size w w' :=
  newmark_any [(a0, a1)] _ 1 w (plc_blk1 h) (by simp)
theorem newmark_two {w : World} {n : Nat} {a0 a1 b0 b1 : Int} (h : w.heap[n]? = some (.cells #[.int .i64 a0, .int .i64 a1, .int .i64 b0, .int .i64 b1] 41 (0, 0))) : Calls Tryz.prog 42 #[.slice (some ⟨n, 0, none⟩) 2 2] w fun e w' => ∃ mb, e = .returned (.pointer (some ⟨mb, 0, none⟩)) ∧ MarkAt w' mb (vof [(a0, a1), (b0, b1)]) ∧ w.heap.size ≤ mb ∧ Below w.heap.size w w' :=
  newmark_any [(a0, a1), (b0, b1)] _ 2 w (plc_blk2 h) (by simp)
theorem rnewmark_one {w : World} {n : Nat} {a0 a1 : Int} (h : w.heap[n]? = some (.cells #[.int .i64 a0, .int .i64 a1] 41 (0, 0))) : Calls Tryz.prog 43 #[.slice (some ⟨n, 0, none⟩) 1 1] w fun e w' => ∃ rb, e = .returned (.pointer (some ⟨rb, 0, none⟩)) ∧ RMarkAt w' w.heap.size rb (vof [(a0, a1)]) 0 ∧ w.heap.size ≤ rb ∧ Below w.heap.size w w' :=
  rnewmark_any [(a0, a1)] _ 1 w (plc_blk1 h) (by simp)
theorem ver_zero : ver 0 0 = 0 := by decide
theorem ver_neg (b : Int) : ver b (-1) = 0 := by unfold ver hasP; simp
theorem vof_two (b : Int) : vof [(0, 0), (b, -1)] = [] := by simp [vof, vstep, ver_zero, ver_neg]
theorem vof_single (b u : Int) : vof [(b, u)] = if ver b u = 0 then [] else [ver b u] := by simp [vof, vstep]
end Go.Proofs.YtddflihgadlafaaGreat

/-
  Layer 12's example.
-/
namespace Go.Proofs.YtddflihgadlafaaGreat
open Go.RowKit Go.Maps
set_option linter.unusedVariables false

theorem world12 (b : Int) (hb : 1 ≤ b ∧ b ≤ 12) {w0 w : World} (hB : Below w0.heap.size w0 w) : Calls Tryz.prog 101 #[.int .i64 b] w fun e w' => ∃ wb cb s, e = .returned (.pointer (some ⟨wb, 0, none⟩)) ∧ Wld w0 w' wb cb ⟨b, 8, 3, 1, 16⟩ s ∧ New1 b s ∧ Below w.heap.size w w' := by
  have hn1 : Calls Tryz.prog 57 #[.agg #[.int .i64 b, .int .i64 8, .int .i64 3, .int .i64 1, .int .i64 16]] w fun e w' => ∃ wb cb s, e = .returned (.tuple #[.pointer (some ⟨wb, 0, none⟩), .int .i64 0]) ∧ Wld w0 w' wb cb ⟨b, 8, 3, 1, 16⟩ s ∧ New1 b s ∧ Below w.heap.size w w' :=
    new_wld hB ⟨b, 8, 3, 1, 16⟩ (by simp [Conf.ok]; omega)
  clear hb
  go_enter Tryz.func101, Tryz.ntmps101
  go_wp2_with (go_at_call 57; with_reducible refine hn1.mono ?_; rintro e w1 ⟨wb, cb, s, rfl, h1, n1, b1⟩)
  go_ret
  exact ⟨_, _, s, rfl, h1, n1, b1⟩

/-- Cells behind a Mark's steps. -/
def marked (s : CS) (xs : List Int) : CS := xs.foldl (fun s a => s.acc 4 a (wu (s.val a + 1))) s
theorem marked_le (s : CS) (xs : List Int) (m : Nat) (h : s.n ≤ m ∧ s.cnt ≤ m) : (marked s xs).n ≤ m + xs.length ∧ (marked s xs).cnt ≤ m + xs.length := by
  unfold marked
  induction xs generalizing s m with
  | nil => exact h
  | cons x r ih =>
    have := ih (s.acc 4 x (wu (s.val x + 1))) (m + 1) (room_acc m h)
    simp only [List.foldl_cons, List.length_cons]; omega
theorem marked_take {xs : List Int} {k : Nat} {a : Int} (s : CS) (h : xs[k]? = some a) : marked s (xs.take (k + 1)) = (marked s (xs.take k)).acc 4 a (wu ((marked s (xs.take k)).val a + 1)) := by
  unfold marked; rw [List.take_add_one, h, List.foldl_append]; rfl

set_option maxHeartbeats 1000000 in
theorem run_any {w0 w : World} {wb cb mb : Nat} {c : Conf} {s : CS} {xs : List Int} (h : Wld w0 w wb cb c s) (m : Nat) (hr : s.n ≤ m ∧ s.cnt ≤ m) (hm : m + xs.length < lim) (hM : MarkAt w mb xs) (hlo : w0.heap.size ≤ mb) (hx : ∀ a ∈ xs, (Lit.int .u64 a).wf = true) (most : Int) (hmost : (xs.length : Int) ≤ most) :
    Calls Tryz.prog 41 #[.pointer (some ⟨wb, 0, none⟩), .iface 105 (.pointer (some ⟨mb, 0, none⟩)), .int .i64 most] w fun e w' => e = .returned (.int .i64 xs.length) ∧ Wld w0 w' wb cb c (marked s xs) ∧ MarkAt w' mb [] := by
  have H := Lib.hid h; have HR := Lib.hid hr; have HM := Lib.hid hm; have HMA := Lib.hid hM; have HX := Lib.hid hx
  unfold lim at hm
  clear h hr hM hx
  go_enter Tryz.func41, Tryz.ntmps41
  go_wp2
  go_loopw [7] (fun i wr => ∃ k : Nat, k ≤ xs.length ∧ i = .int .i64 k ∧ Wld w0 wr wb cb c (marked s (xs.take k)) ∧ MarkAt wr mb (xs.drop k)) (fun i _ => xs.length - (intOf i).toNat)
  case atStart => exact ⟨0, by omega, rfl, H.out, HMA.out⟩
  case round =>
    obtain ⟨k, hk, rfl, h1, h2⟩ := hrel
    by_cases hlt : k < xs.length
    · have hd := List.drop_eq_getElem_cons hlt
      have hk1 := marked_take s (List.getElem?_eq_getElem hlt)
      have ha := HX.out _ (List.getElem_mem hlt)
      rw [hd] at h2
      generalize xs[k] = a at *
      have hov := over_any h2
      rw [show decide (a :: xs.drop (k + 1) = []) = false from rfl] at hov
      have hkl : (k : Int) < most := by omega
      have hl := marked_le s (xs.take k) m HR.out
      rw [List.length_take] at hl
      have hst := mstep_any h1 (CS.room_of (m + xs.length) ⟨by omega, by omega⟩ HM.out) h2 hlo ha
      have HK := Lib.hid hk1
      clear hd hk1 ha hl h1 h2
      go_wp2_with (first
        | (go_at_call 44; refine hov.mono ?_; rintro e w2 ⟨rfl, hw⟩; obtain rfl := hw.symm)
        | (go_at_call 45; refine hst.mono ?_; rintro e w3 ⟨rfl, g1, g2, -⟩))
      exact ⟨⟨k + 1, by omega, by go_num, by rw [HK.out]; exact g1, g2⟩, by simp [intOf]; omega⟩
    · obtain rfl : k = xs.length := by omega
      rw [List.drop_length] at h2
      rw [List.take_length] at h1
      have hov := over_any h2
      have H1 := Lib.hid h1; have H2 := Lib.hid h2
      clear h1 h2
      by_cases hkl : (xs.length : Int) < most
      · go_wp2_with (go_at_call 44; refine hov.mono ?_; rintro e w2 ⟨rfl, hw⟩; obtain rfl := hw.symm)
        go_ret
        exact ⟨rfl, H1.out, H2.out⟩
      · go_wp2
        go_ret
        exact ⟨rfl, H1.out, H2.out⟩

theorem marked95 (s : CS) (h : s.val 95 = 0) : (marked s [95, 96]).val 95 = 1 := by
  simp [marked, CS.acc, upd, h]; decide
theorem marked96 (s : CS) (h : s.val 96 = 0) : (marked s [95, 96]).val 96 = 1 := by
  simp [marked, CS.acc, upd, h]; decide
theorem plc_three (w : World) (a0 a1 b0 b1 c0 c1 : Int) : Plc (w.alloc (.cells #[.int .i64 a0, .int .i64 a1, .int .i64 b0, .int .i64 b1, .int .i64 c0, .int .i64 c1] 41)) (some ⟨w.heap.size, 0, none⟩) 3 [(a0, a1), (b0, b1), (c0, c1)] := by
  have hq := heap_alloc_new w (.cells #[.int .i64 a0, .int .i64 a1, .int .i64 b0, .int .i64 b1, .int .i64 c0, .int .i64 c1] 41)
  have k : ∀ o, (w.alloc (.cells #[.int .i64 a0, .int .i64 a1, .int .i64 b0, .int .i64 b1, .int .i64 c0, .int .i64 c1] 41)).cell? ⟨w.heap.size, o, none⟩ = (#[.int .i64 a0, .int .i64 a1, .int .i64 b0, .int .i64 b1, .int .i64 c0, .int .i64 c1] : Array Value)[o]? := fun o => by
    unfold World.cell?; simp only; rw [hq]; rfl
  refine ⟨by simp, by unfold maxLen; omega, fun h => by simp at h, .inr ⟨_, 0, rfl, fun i hi => ?_⟩⟩
  have : i = 0 ∨ i = 1 ∨ i = 2 := by simp at hi; omega
  rcases this with rfl | rfl | rfl <;> (rw [k, k]; exact ⟨rfl, rfl⟩)

set_option maxRecDepth 10000 in
set_option maxHeartbeats 1000000 in
theorem lives12 (w : World) : Calls Tryz.prog 46 #[] w fun e w' => e = .returned (.bool true) ∧ Below w.heap.size w w' := by
  have hw := world12 1 (by omega) (Below.refl w.heap.size w)
  have hv : vof [(1, 0), (1, 1), (1, 0)] = [95, 96] := by decide
  have HV := Lib.hid hv
  clear hv
  go_enter Tryz.func46, Tryz.ntmps46
  go_wp2_with (first
    | (go_at_call 101; with_reducible refine hw.mono ?_; rintro e w1 ⟨wb, cb, s, rfl, h1, n1, b1⟩; clear hw)
    | (go_at_call 42; refine (newmark_any [(1, 0), (1, 1), (1, 0)] _ _ _ (plc_three w1 1 0 1 1 1 0) (by decide)).mono ?_; rw [HV.out]; rintro e w2 ⟨mb, rfl, h2, l2, b2⟩))
  have hk := h1.keep (bnext (below_alloc w1 _) b2)
  have hlo : w.heap.size ≤ mb := by have := b1.size; simp at l2; omega
  have hv1 := marked95 s (n1.vo 95 (by decide))
  have hv2 := marked96 s (n1.vo 96 (by decide))
  have hrun := run_any hk 1 n1.le (by unfold lim; decide) h2 hlo (by decide) 9 (by decide)
  clear h1 h2 b2 l2 n1 b1 hlo hk
  have H1 := Lib.hid hv1; have H2 := Lib.hid hv2
  clear hv1 hv2
  go_wp2_with (first
    | (go_at_call 41; with_reducible refine hrun.mono ?_; rintro e w3 ⟨rfl, h3, -⟩; clear hrun; have c0 := h3.cell.1; have hp1 := peek_own h3.own 95 (by decide); have hp2 := peek_own h3.own 96 (by decide); rw [H1.out] at hp1; rw [H2.out] at hp2)
    | (go_at_call 49; with_reducible refine hp1.mono ?_; rintro e w4 ⟨rfl, hw⟩; obtain rfl := hw.symm; clear hp1)
    | (go_at_call 49; with_reducible refine hp2.mono ?_; rintro e w4 ⟨rfl, hw⟩; obtain rfl := hw.symm))
  go_ret
  exact ⟨rfl, h3.own.below⟩
end Go.Proofs.YtddflihgadlafaaGreat


/-
  StripesVoid: the walk.
-/
namespace Go.Proofs.YtddflihgadlafaaGreat
open Go.RowKit Go.Maps
set_option linter.unusedVariables false

theorem pmark_w (T : TypeId) (h : wrTy T = true) : (T == 105) = false := by
  cases hT : (T == 105)
  · rfl
  · rw [beq_iff_eq] at hT; subst hT; cases h
theorem info_pmark : (Tryz.prog.info? 105).map (fun i => (i.zero, i.size, i.bytes)) = some (some (.pointer none), 1, 8) := by kernel_rfl
theorem below_drew {w w' : World} (h : Below w.drew.heap.size w.drew w') : Below w.heap.size w w' := ⟨h.os, h.tape, h.output, h.size, fun k hk => h.block k hk⟩
structure SVS (w wx : World) (B R : WB) (V : WV) (s : CS) (x : RS) (q g : Nat) (n : Nat) (v : Value) : Prop where
  row : ∃ xs, wx.ownsRow g 105 1 v n xs ∧ ∀ y ∈ xs, VMark wx y
  pr : Pr w wx B R V s x
  pq : wx.heap[q]? = some (.cells #[.pointer (some ⟨B.wb, 0, none⟩), .pointer (some ⟨R.wb, 0, none⟩)] 34 (0, 0))
theorem SVS.below {w wx wy : World} {B R : WB} {V : WV} {s : CS} {x : RS} {q g n : Nat} {v : Value} (h : SVS w wx B R V s x q g n v) (hb : Below wx.heap.size wx wy) : SVS w wy B R V s x q g n v := by
  obtain ⟨xs, h2, h3⟩ := h.row
  exact ⟨⟨xs, own_fr h2 (below_fr hb (fun _ => false) false) rfl, fun y hy => (h3 y hy).below hb⟩, h.pr.keep hb, (hb.block _ (Array.getElem?_eq_some_iff.1 h.pq).1).trans h.pq⟩
theorem Pr.fr {K : TypeId → Bool} {w0 w w' : World} {B R : WB} {V : WV} {s : CS} {x : RS} (h : Pr w0 w B R V s x) (hf : Fr K false w w') (hK : ∀ T, wrTy T = true → K T = false) (hB : Below w0.heap.size w0 w') : Pr w0 w' B R V s x :=
  ⟨h.ws.fr hf (fun T hT => hK T (by unfold wrTy; rw [hT]; rfl)) hB, h.rd.fr hf (fun T hT => hK T (by unfold wrTy; rw [hT]; simp)) hB, h.al⟩
theorem svs_lit {w1 w5 wF : World} {B R : WB} {V : WV} {s : CS} {x : RS} {q vb ma mc pa : Nat} {P : Obj} (h5 : Pr w1 w5 B R V s x) (hq : w5.heap[q]? = some (.cells #[.pointer (some ⟨B.wb, 0, none⟩), .pointer (some ⟨R.wb, 0, none⟩)] 34 (0, 0)))
    (hm : MarkAt w5 vb []) (hp : w5.heap[pa]? = some P) (hf : Below w5.heap.size w5 wF ∧ MarkAt wF ma [] ∧ MarkAt wF mc []) :
    SVS w1 (wF.alloc (.cells #[.pointer none, .pointer (some ⟨vb, 0, none⟩), .pointer (some ⟨ma, 0, none⟩), .pointer (some ⟨mc, 0, none⟩)] 105)) B R V s x q w5.heap.size 4 (.slice (some ⟨wF.heap.size, 0, none⟩) 4 4) ∧
      (wF.alloc (.cells #[.pointer none, .pointer (some ⟨vb, 0, none⟩), .pointer (some ⟨ma, 0, none⟩), .pointer (some ⟨mc, 0, none⟩)] 105)).heap[pa]? = some P := by
  obtain ⟨hb, h1, h2⟩ := hf
  have hb2 := below_alloc wF (.cells #[.pointer none, .pointer (some ⟨vb, 0, none⟩), .pointer (some ⟨ma, 0, none⟩), .pointer (some ⟨mc, 0, none⟩)] 105)
  have hb3 := hb.trans (hb2.mono hb.size)
  refine ⟨⟨⟨_, own_lit wF w5.heap.size 105 [.pointer none, .pointer (some ⟨vb, 0, none⟩), .pointer (some ⟨ma, 0, none⟩), .pointer (some ⟨mc, 0, none⟩)] hb.size (by unfold maxLen; simp), fun y hy => ?_⟩, h5.keep hb3, (hb3.block _ (Array.getElem?_eq_some_iff.1 hq).1).trans hq⟩, (hb3.block _ (Array.getElem?_eq_some_iff.1 hp).1).trans hp⟩
  simp only [List.mem_cons, List.not_mem_nil, or_false] at hy
  rcases hy with rfl | rfl | rfl | rfl
  · exact .inl rfl
  · exact .inr ⟨_, rfl, hm.keep hb3⟩
  · exact .inr ⟨_, rfl, h1.keep hb2⟩
  · exact .inr ⟨_, rfl, h2.keep hb2⟩
set_option maxRecDepth 10000 in
set_option maxHeartbeats 4000000 in
theorem svoid_any (b u : Int) (w : World) : Calls Tryz.prog 7 #[.agg #[.int .i64 b, .int .i64 u]] w fun e w' => e = .returned (.bool true) ∧ Below w.heap.size w w' := by
  have hb0 := below_alloc w (.cells #[.int .i64 b, .int .i64 u] 41)
  have hz0 := heap_alloc_new w (.cells #[.int .i64 b, .int .i64 u] 41)
  have HB0 := Lib.hid hb0; have HZ0 := Lib.hid hz0
  clear hb0 hz0
  go_enter Tryz.func7, Tryz.ntmps7
  go_upto_region 1 with (fail)
  change Code.wp _ _ _ _ (w.alloc (.cells #[.int .i64 b, .int .i64 u] 41))
  generalize w.alloc (.cells #[.int .i64 b, .int .i64 u] 41) = w1 at *
  have HS0 : Hid (w.heap.size < w1.heap.size) := (Array.getElem?_eq_some_iff.1 HZ0.out).1
  generalize hpa : w.heap.size = pa at *
  have HPA := Lib.hid hpa
  clear hpa
  go_upto_region 2 with (go_at_call 13; refine (begin_zero w1).mono ?_; rintro e w3 ⟨B, R, V, s, x, rfl, hpr, hV, hfar, -, -⟩; have HPR := Lib.hid hpr; have HFAR := Lib.hid hfar; have HV : Hid (V.its = [] ∧ V.nts = []) := ⟨by rw [hV]; rfl, by rw [hV]; rfl⟩; clear hpr hV hfar)
  have hq0 := heap_alloc_new w3 (.cells #[.pointer (some ⟨B.wb, 0, none⟩), .pointer (some ⟨R.wb, 0, none⟩)] 34)
  have hB4 := below_alloc w3 (.cells #[.pointer (some ⟨B.wb, 0, none⟩), .pointer (some ⟨R.wb, 0, none⟩)] 34)
  have HP4 := Lib.hid (HPR.out.keep hB4)
  change Code.wp _ _ _ _ (w3.alloc (.cells #[.pointer (some ⟨B.wb, 0, none⟩), .pointer (some ⟨R.wb, 0, none⟩)] 34))
  generalize w3.alloc (.cells #[.pointer (some ⟨B.wb, 0, none⟩), .pointer (some ⟨R.wb, 0, none⟩)] 34) = w4 at *
  generalize w3.heap.size = q at *
  have HQ4 := Lib.hid hq0
  clear hq0 hB4 HPR
  go_upto_region 4 with (fail)
  have hb5 := below_alloc w4 (.cells #[.slice none 0 0] 104)
  have hz5 := heap_alloc_new w4 (.cells #[.slice none 0 0] 104)
  have HM5 : Hid (MarkAt (w4.alloc (.cells #[.slice none 0 0] 104)) w4.heap.size []) := ⟨_, hz5, .inl ⟨rfl, rfl⟩⟩
  have HP5 := Lib.hid (HP4.out.keep hb5)
  have HQ5 := Lib.hid ((hb5.block _ (Array.getElem?_eq_some_iff.1 HQ4.out).1).trans HQ4.out)
  have HZ5 : Hid ((w4.alloc (.cells #[.slice none 0 0] 104)).heap[pa]? = some (.cells #[.int .i64 b, .int .i64 u] 41 (0, 0))) := (HP5.out.ws.below.block _ HS0.out).trans HZ0.out
  change Code.wp _ _ _ _ (w4.alloc (.cells #[.slice none 0 0] 104))
  generalize w4.alloc (.cells #[.slice none 0 0] 104) = w5 at *
  generalize w4.heap.size = vb at *
  have HW5 : Hid (w1.heap.size ≤ w5.heap.size) := HP5.out.ws.below.size
  clear hb5 hz5 HP4 HQ4
  go_cut [6] (fun v6 wx => SVS w1 wx B R V s x q w5.heap.size 4 v6 ∧ wx.heap[pa]? = some (.cells #[.int .i64 b, .int .i64 u] 41 (0, 0)))
  case first =>
    have c0 : w5.cell? ⟨pa, 0, none⟩ = some (.int .i64 b) := hcell HZ5.out 0
    have c0d : w5.drew.cell? ⟨pa, 0, none⟩ = some (.int .i64 b) := hcell (w := w5.drew) HZ5.out 0
    have hpal : pa < w5.heap.size := (Array.getElem?_eq_some_iff.1 HZ5.out).1
    have hsd : Below w5.heap.size w5 ((w5.alloc (.cells #[.int .i64 0, .int .i64 0, .int .i64 b, .int .i64 (-1)] 41)).drew) := (below_alloc w5 _).drew
    have hzd : ((w5.alloc (.cells #[.int .i64 0, .int .i64 0, .int .i64 b, .int .i64 (-1)] 41)).drew).heap[w5.heap.size]? = some (.cells #[.int .i64 0, .int .i64 0, .int .i64 b, .int .i64 (-1)] 41 (0, 0)) := heap_alloc_new w5 _
    have hA1 := newmark_nil w5.drew
    have hA2 := newmark_nil ((w5.alloc (.cells #[.int .i64 0, .int .i64 0, .int .i64 b, .int .i64 (-1)] 41)).drew)
    have hB1 := newmark_two hzd
    have HZD := Lib.hid hzd; have HSD := Lib.hid hsd; have HPAL := Lib.hid hpal
    rw [vof_two] at hB1
    clear hsd hzd hpal
    go_region_with (first
      | (go_at_call 42; with_reducible refine hA1.mono ?_; intro e wA hh; obtain ⟨ma, hh1, hma, hloa, hba⟩ := hh; subst hh1; have hbA := below_drew hba; have cA : wA.cell? ⟨pa, 0, none⟩ = some (.int .i64 b) := (hbA.cell (p := ⟨pa, 0, none⟩) HPAL.out).trans c0; have hB2 := newmark_two (heap_alloc_new wA (.cells #[.int .i64 0, .int .i64 0, .int .i64 b, .int .i64 (-1)] 41)); rw [vof_two] at hB2; have HMA := Lib.hid hma; have HBA := Lib.hid hbA; clear hma hba hbA hloa hA1 hA2 hB1)
      | (go_at_call 42; with_reducible refine hB2.mono ?_; intro e wF hh; obtain ⟨mc, hh1, hmc, hloc, hbc⟩ := hh; subst hh1; have hb1 := below_alloc wA (.cells #[.int .i64 0, .int .i64 0, .int .i64 b, .int .i64 (-1)] 41); have hb2 : Below wA.heap.size wA wF := hb1.trans (hbc.mono hb1.size); have t1 := HBA.out.trans (hb2.mono HBA.out.size); have t2 : MarkAt wF ma [] := HMA.out.keep hb2; have t3 : MarkAt wF mc [] := hmc; have HF := Lib.hid (And.intro t1 (And.intro t2 t3)); clear hmc hloc hbc hb1 hb2 hB2)
      | (go_at_call 42; with_reducible refine hA2.mono ?_; intro e wA hh; obtain ⟨ma, hh1, hma, hloa, hba⟩ := hh; subst hh1; have hB3 := newmark_two ((hba.block _ (Array.getElem?_eq_some_iff.1 HZD.out).1).trans HZD.out); rw [vof_two] at hB3; have HMA := Lib.hid hma; have tb := HSD.out.trans (hba.mono HSD.out.size); have HBA := Lib.hid tb; clear hma hba hloa hA2 hA1 hB1 tb)
      | (go_at_call 42; with_reducible refine hB3.mono ?_; intro e wF hh; obtain ⟨mc, hh1, hmc, hloc, hbc⟩ := hh; subst hh1; have t1 := HBA.out.trans (hbc.mono HBA.out.size); have t2 : MarkAt wF ma [] := HMA.out.keep hbc; have t3 : MarkAt wF mc [] := hmc; have HF := Lib.hid (And.intro t1 (And.intro t2 t3)); clear hmc hloc hbc hB3)
      | (go_at_call 42; with_reducible refine hB1.mono ?_; intro e wA hh; obtain ⟨mc, hh1, hmc, hloc, hbc⟩ := hh; subst hh1; have hA3 := newmark_nil wA; have HMC := Lib.hid hmc; have tb := HSD.out.trans (hbc.mono HSD.out.size); have HBA := Lib.hid tb; clear hmc hbc hloc hA2 hA1 hB1 tb)
      | (go_at_call 42; with_reducible refine hA3.mono ?_; intro e wF hh; obtain ⟨ma, hh1, hma, hloa, hba⟩ := hh; subst hh1; have t1 := HBA.out.trans (hba.mono HBA.out.size); have t2 : MarkAt wF ma [] := hma; have t3 : MarkAt wF mc [] := HMC.out.keep hba; have HF := Lib.hid (And.intro t1 (And.intro t2 t3)); clear hma hloa hba hA3))
    all_goals go_wp2_with fail
    all_goals go_meet
    all_goals exact svs_lit HP5.out HQ5.out HM5.out HZ5.out HF.out
  case rest =>
  obtain ⟨hsv, hpl⟩ := hcut
  obtain ⟨a6, cap6, rfl⟩ : ∃ a cap, u6 = .slice a 4 cap := by obtain ⟨xs, h, _⟩ := hsv.row; exact own_sl2 h
  have HG6 : Hid (w5.heap.size < wc.heap.size + 1) := by
    obtain ⟨xs, h, _⟩ := hsv.row
    obtain ⟨g, cap, hv, h1, h2⟩ := World.ownsRow.form h (by decide)
    show w5.heap.size < wc.heap.size + 1; omega
  have HS := Lib.hid hsv; have HP := Lib.hid hpl
  clear hsv hpl HP5 HQ5 HM5 HZ5
  have z0 : wc.cell? ⟨pa, 0, none⟩ = some (.int .i64 b) := hcell HP.out 0
  have z1 : wc.cell? ⟨pa, 1, none⟩ = some (.int .i64 u) := hcell HP.out 1
  have hrn := rnewmark_one (heap_alloc_new wc (.cells #[.int .i64 b, .int .i64 u] 41))
  go_upto_if 26 with (go_at_call 43; refine hrn.mono ?_; intro e w7 hh; obtain ⟨rb, hh1, hr7, hlo7, hb7⟩ := hh; subst hh1; obtain ⟨rv, hr1, -⟩ := hr7; have r0 := hcell hr1 0; have hb6 := below_alloc wc (.cells #[.int .i64 b, .int .i64 u] 41); have hb67 := hb6.trans (hb7.mono hb6.size); have HB7 := Lib.hid hb67; clear hrn hr1 hb7 hb6 hb67 hlo7 z0 z1)
  have HS7 := Lib.hid (HS.out.below HB7.out)
  have HP7 := Lib.hid ((HB7.out.block _ (Array.getElem?_eq_some_iff.1 HP.out).1).trans HP.out)
  have HG7 : Hid (w5.heap.size ≤ w7.heap.size) := by
    obtain ⟨xs, h, _⟩ := HS7.out.row
    obtain ⟨g, cap, hv, h1, h2⟩ := World.ownsRow.form h (by decide)
    show w5.heap.size ≤ w7.heap.size; omega
  clear HS HP HG6 HB7
  obtain ⟨i0, hi0, hz0, hz1, hz2⟩ := info_parts info_pmark
  have HI := Lib.hid hi0; have HZ0 := Lib.hid hz0; have HZ1 := Lib.hid hz1; have HZ2 := Lib.hid hz2
  clear hi0 hz0 hz1 hz2 r0
  go_cut [6] (fun v6 wx => ∃ n, n ≤ 5 ∧ SVS w1 wx B R V s x q w5.heap.size n v6)
  case first =>
    by_cases hv : ver b u = 0
    · have hvf : vof [(b, u)] = [] := by rw [vof_single, if_pos hv]
      rw [hvf]
      have z0 : w7.cell? ⟨pa, 0, none⟩ = some (.int .i64 b) := hcell HP7.out 0
      have z1 : w7.cell? ⟨pa, 1, none⟩ = some (.int .i64 u) := hcell HP7.out 1
      have hnm := newmark_one (heap_alloc_new w7 (.cells #[.int .i64 b, .int .i64 u] 41))
      rw [hvf] at hnm
      clear hv hvf
      obtain ⟨xs, hrow, hvm⟩ := HS7.out.row
      have HROW := Lib.hid hrow; have HVM := Lib.hid hvm
      clear hrow hvm
      go_wp2_with (first
        | (go_at_call 42; refine hnm.mono ?_; intro e w8 hh; obtain ⟨mb, hh1, hm8, hlo8, hb8⟩ := hh; subst hh1; have hb7 := below_alloc w7 (.cells #[.int .i64 b, .int .i64 u] 41); have hb78 := hb7.trans (hb8.mono hb7.size); have HB8 := Lib.hid hb78; have HM8 := Lib.hid hm8; have hr8 := own_fr HROW.out (below_fr hb78 (fun _ => false) false) rfl; clear hnm hb8 hb7 hb78 hlo8 z0 z1 hm8)
        | (at_builtin; refine wpList_append_own _ rfl _ _ 107 rfl w5.heap.size 105 i0 (.pointer none) 1 8 Tryz.underlying107 HI.out HZ0.out HZ1.out HZ2.out rfl (by decide) _ _ _ rfl (hr8.alloc _) ⟨_, 0, none⟩ 1 1 [.pointer (some ⟨mb, 0, none⟩)] rfl rfl ?c1 ?c2 ?c3 ?c4 ?c5 ?_))
      case c1 => exact news_one _ _ _ _ rfl
      case c2 => simp [Value.oneCell']
      case c3 => unfold maxLen; omega
      case c4 => omega
      case c5 => have h1 := HB8.out.size; have h2 := HG7.out; simp; omega
      intro v' w11 hown' hgrow _
      have hb10 := below_alloc w8 (.cells #[.pointer (some ⟨mb, 0, none⟩)] 105)
      have hold := hr8.alloc (.cells #[.pointer (some ⟨mb, 0, none⟩)] 105)
      have hgr := grown_ty hold hgrow
      have hB7 : Below w7.heap.size w7 (w8.alloc (.cells #[.pointer (some ⟨mb, 0, none⟩)] 105)) := HB8.out.trans (hb10.mono HB8.out.size)
      have hf : Fr (fun T => T == 105) false w7 w11 := (below_fr hB7 _ _).trans hgr
      have h15 : w1.heap.size ≤ w5.heap.size := HW5.out
      have hB : Below w1.heap.size w1 w11 := grown_below hold hgrow (HS7.out.pr.ws.below.trans (hB7.mono HS7.out.pr.ws.below.size)) (Nat.le_trans HS7.out.pr.ws.below.size hB7.size) h15
      have HREL : Hid (SVS w1 w11 B R V s x q w5.heap.size 5 v') := by
        refine ⟨⟨_, hown', fun y hy => ?_⟩, HS7.out.pr.fr hf pmark_w hB, hf.cells _ _ _ _ HS7.out.pq rfl⟩
        rcases List.mem_append.1 hy with hy | hy
        · exact (HVM.out y hy).fr hf rfl rfl
        · simp only [List.mem_cons, List.not_mem_nil, or_false] at hy
          subst hy
          exact .inr ⟨mb, rfl, (HM8.out.keep hb10).fr hgr rfl rfl⟩
      clear hown' hgrow hb10 hold hgr hB7 hf h15 hB hr8
      go_wp2_with fail
      go_meet
      case rel => exact ⟨5, by omega, HREL.out⟩
    · have hvf : vof [(b, u)] = [ver b u] := by rw [vof_single, if_neg hv]
      rw [hvf]
      clear hv hvf
      go_wp2_with fail
      all_goals go_meet
      all_goals exact ⟨4, by omega, HS7.out⟩
  case rest =>
  clear HS7 HP7 HG7 HI HZ0 HZ1 HZ2
  obtain ⟨n, hn5, hsv⟩ := hcut
  obtain ⟨a6, cap6, rfl⟩ : ∃ a cap, u6 = .slice a n cap := by obtain ⟨xs, h, _⟩ := hsv.row; exact own_sl2 h
  have HS := Lib.hid hsv
  clear hsv
  go_wp2_with fail
  go_loopw [7] (fun i7 wr => ∃ i : Nat, i ≤ n ∧ i7 = .int .i64 i ∧ SVS w1 wr B R V s x q w5.heap.size n (.slice a6 n cap6)) (fun i7 _ => n - (intOf i7).toNat)
  case atStart => exact ⟨0, by omega, rfl, HS.out⟩
  case round =>
    clear HS
    obtain ⟨i, hi, rfl, hS⟩ := hrel
    by_cases hlt : i < n
    · have hlt' : (i : Int) < n := by omega
      obtain ⟨xs, hrow, hvm⟩ := hS.row
      obtain ⟨g', cap', y, hv, hy, hyc, -⟩ := own_at hrow i hlt
      simp only [Value.slice.injEq, true_and] at hv
      obtain ⟨rfl, rfl⟩ := hv
      have hvy := hvm y (List.mem_of_getElem? hy)
      have z1 := fun st : ExtW wr => st.cell hyc
      have z0 : ∀ st : ExtW wr, st.val.cell? ⟨q, 0, none⟩ = some (.pointer (some ⟨B.wb, 0, none⟩)) := fun st => st.cell (hcell hS.pq 0)
      have m1 := fun st : ExtW wr => ((hvy.below st.below).over).mono fun e w' (h : _ ∧ _) => And.intro h.1 h.2.symm
      have m2 := fun st : ExtW wr => ((hvy.below st.below).step (.pointer (some ⟨B.wb, 0, none⟩))).mono fun e w' (h : _ ∧ _) => And.intro h.1 h.2.symm
      have m3 := fun st : ExtW wr => ((hvy.below st.below).step (.pointer none)).mono fun e w' (h : _ ∧ _) => And.intro h.1 h.2.symm
      have HS := Lib.hid hS
      clear hS hrow hvm hy hvy hyc
      go_upto_region 10 with (fail)
      refine wp_region_ext (by kernel_rfl) (by kernel_rfl) ?_
      repeat (go_big_quiet_step (first
        | (go_at_call 44; with_reducible refine calls_ext_same (m1 _))
        | (go_at_call 45; with_reducible refine calls_ext_same (m2 _))
        | (go_at_call 45; with_reducible refine calls_ext_same (m3 _))))
      refine wpQuiet_nil ?_
      rintro W13 ⟨⟨W14, hW⟩, rfl⟩
      clear z0 z1 m1 m2 m3
      have HS2 := Lib.hid (HS.out.below hW)
      clear hW
      go_wp2
      go_roundw
      case rel => exact ⟨i + 1, by omega, by go_num, HS2.out⟩
      case measure => simp [intOf]; omega
    · obtain rfl : i = n := by omega
      have HS := Lib.hid hS
      clear hS hlt
      have hnm := newmark_one (heap_alloc_new wr (.cells #[.int .i64 2, .int .i64 1] 41))
      have hv21 : vof [(2, 1)] = [ver 2 1] := by rw [vof_single, if_neg (by decide)]
      rw [hv21] at hnm
      clear hv21
      go_upto_region 13 with (go_at_call 42; refine hnm.mono ?_; intro e w15 hh; obtain ⟨mb, hh1, hm8, hlo8, hb8⟩ := hh; subst hh1; have hb7 := below_alloc wr (.cells #[.int .i64 2, .int .i64 1] 41); have hb78 := hb7.trans (hb8.mono hb7.size); have HS15 := Lib.hid (HS.out.below hb78); have HM15 := Lib.hid hm8; clear hnm hb8 hb7 hb78 hlo8 hm8)
      have p0 : w15.cell? ⟨q, 0, none⟩ = some (.pointer (some ⟨B.wb, 0, none⟩)) := hcell HS15.out.pq 0
      have p1 : w15.cell? ⟨q, 1, none⟩ = some (.pointer (some ⟨R.wb, 0, none⟩)) := hcell HS15.out.pq 1
      have o1 := mstep_no HM15.out
      have o2 := over_any HM15.out
      rw [show decide ([ver 2 1] = []) = false from rfl] at o2
      have o5 := psall_any HS15.out.pr HV.out.2 (by rw [HV.out.1]; exact Nat.zero_le _) (by have := HFAR.out.1; omega)
      have HB15 := Lib.hid HS15.out.pr.ws.below
      go_wp2_with (first
        | (go_at_call 45; refine o1.mono ?_; rintro e w' ⟨rfl, hw⟩; obtain rfl := hw.symm; clear o1)
        | (go_at_call 44; refine o2.mono ?_; rintro e w' ⟨rfl, hw⟩; obtain rfl := hw.symm; clear o2)
        | (go_at_call 14; refine o5.mono ?_; rintro e w17 ⟨rfl, b17⟩; have HB17 := Lib.hid b17; clear o5 b17 p0 p1)
        | (go_at_call 46; refine (lives12 _).mono ?_; rintro e w18 ⟨rfl, b18⟩))
      go_ret
      have h1 := HB15.out.trans (HB17.out.mono HB15.out.size)
      have h2 := h1.trans (b18.mono h1.size)
      rw [show w.heap.size = pa from HPA.out]
      exact ⟨rfl, HB0.out.trans (h2.mono (Nat.le_of_lt HS0.out))⟩
set_option maxRecDepth 10000 in
theorem walkStripesVoid {H1 : Type} (w : World) (enc : TypeId × Value → H1) (base : Nat) (v : Value) (d : DataW H1) (p : List MemPlace) (k : DataW.Trod enc Tryz.prog w 0 (fun _ => true) true 41 v d p) (o : Value.okWide Tryz.prog w .any base 41 v) :
    Calls Tryz.prog 7 #[v] w fun e w' => e = .returned (.bool true) ∧ Below w.heap.size w w' := by
  have hl : leaves Tryz.prog 4 41 = some [.int .i64, .int .i64] := by kernel_rfl
  obtain ⟨cs, rfl, -⟩ := Go.WideShapes.okWide_struct Tryz.underlying41 o
  have h : Leaf.allHold w [.int .i64, .int .i64] cs.toList := opened hl k
  obtain ⟨c0, r, e0, g0, h⟩ := allHold_cons h
  obtain ⟨c1, r1, e1, g1, h⟩ := allHold_cons h
  obtain rfl := allHold_nil h
  obtain ⟨b, rfl, -⟩ := holds_int g0
  obtain ⟨u, rfl, -⟩ := holds_int g1
  have : cs = #[.int .i64 b, .int .i64 u] := Array.toList_inj.1 (by rw [e0, e1])
  rw [this]
  exact svoid_any b u w
end Go.Proofs.YtddflihgadlafaaGreat
