/-
  The document's order of a history: the walk.
-/
import Derived.Test.YtmagpbbjjkmbpaaHistRef
namespace Go.Proofs.Ytmagpbbjjkmbpaa
open Go.RowKit Go.Maps Go.Sort
set_option linter.unusedVariables false

/-- A row of the document's entries that the call made. -/
def RRow (w : World) (base : Nat) (v : Value) (O : List En) : Prop := w.ownsRow base 43 3 v O.length (flatE O)
def ROrdPost (h : Hst) (w : World) (e : Ending) (w' : World) : Prop := ∃ v O, e = .returned v ∧ RRow w' w.heap.size v O ∧ IsOrd (HC.pts h.cs) (HD.sts h.ds) O ∧ Below w.heap.size w w'
set_option maxRecDepth 100000 in
set_option maxHeartbeats 4000000 in
theorem rorder_any (h : Hst) (w : World) (hr : HstRd w h) (h1 : h.cs.length ≤ 120) (h2 : h.ds.length ≤ 60) :
    Calls Try.prog 11 #[.agg #[.slice h.ca h.cs.length h.cc, .slice h.da h.ds.length h.dc]] w (ROrdPost h w) := by
  have hB := hballoc w (.cells h.cells 32)
  have z := heap_alloc_new w (.cells h.cells 32)
  have HR := Lib.hid (hr.below hB); have HB := Lib.hid hB; have HZ := Lib.hid z
  have HS := Lib.hid (show w.heap.size < (w.alloc (.cells h.cells 32)).heap.size by simp)
  clear hr hB z
  go_enter Try.func11, Try.ntmps11
  go_upto_region 1 with (fail)
  change Code.wp _ _ _ _ (w.alloc (.cells h.cells 32))
  obtain ⟨w1, hw1⟩ : ∃ w1, w1 = w.alloc (.cells h.cells 32) := ⟨_, rfl⟩
  rw [← hw1] at HR HB HZ HS ⊢
  clear hw1
  have hc0 : (h.cs.length : Int) ≤ 120 := by omega
  have H1 := Lib.hid h1; have H2 := Lib.hid h2
  clear h1 h2
  go_wp2_with fail
  go_loopw [3, 4] (fun v3 i wr => ∃ k : Nat, k ≤ h.cs.length ∧ i = .int .i64 k ∧ Hid (∃ O, RRow wr w1.heap.size v3 O ∧ IsOrd (HC.pts (h.cs.take k)) [] O) ∧ Hid (Below w1.heap.size w1 wr)) (fun _ i _ => h.cs.length - (intOf i).toNat)
  case atStart => exact ⟨0, by omega, rfl, Lib.hid ⟨[], World.ownsRow_nil _ _ _ _, by simp [HC.pts, IsOrd, E0, callE, dropE]⟩, Lib.hid (Below.refl _ _)⟩
  case round =>
    obtain ⟨k, hk, rfl, HO, HBW⟩ := hrel
    have c0 : wr.cell? ⟨w.heap.size, 0, none⟩ = some (.slice h.ca h.cs.length h.cc) := hblk ((HBW.out.block _ (Array.getElem?_eq_some_iff.1 HZ.out).1).trans HZ.out) 0
    have HS1 := Lib.hid HBW.out.size
    by_cases hlt : k < h.cs.length
    · have hlt' : (k : Int) < h.cs.length := by omega
      obtain ⟨b, off, x, hca, hx, hwf, g0, g1, g2, g3, g4, g5, g6, g7, g8, g9, g10, g11, g12, g13, g14, g15, g16, g17, g18, g19⟩ := (HR.out.cs.below HBW.out).at k hlt
      clear g0 g1 g2 g3 g4 g5 g6 g7 g8 g9 g10 g11 g12 g13 g14 g15 g16 g17 g18 hwf
      have HX := Lib.hid hx; have HLT := Lib.hid hlt
      rw [hca] at c0
      clear hca hx hlt hk
      have HP : Hid (∀ O, RRow wr w1.heap.size u3 O → IsOrd (HC.pts (h.cs.take k)) [] O → Calls Try.prog 34 #[u3, .agg #[.int .i64 x.pt, .int .i64 k, .int .i64 (-1)]] wr (RPut ⟨x.pt, k, -1⟩ O w1.heap.size wr)) := Lib.hid fun O hO hi => rput_any ⟨x.pt, k, -1⟩ hO (by have := hi.len; have := HLT.out; have := H1.out; simp [HC.pts] at *; omega) HS1.out
      obtain ⟨O, hO1, hO2⟩ := HO.out
      have HP2 := Lib.hid (HP.out O hO1 hO2)
      have HI := Lib.hid hO2
      clear HP hO1 hO2 HO
      go_wp2_with (go_at_call 34; refine HP2.out.mono ?_; intro e w3 hh; have HH := Lib.hid hh; clear hh; obtain ⟨v', X, Y, hh1, q⟩ := HH.out; subst hh1; have HQ := Lib.hid q; clear q)
      go_roundw
      case rel =>
        obtain ⟨q1, q2, q3, q4, q5⟩ := HQ.out
        have hlen : (HC.pts (h.cs.take k)).length = k := pts_len h.cs k (Nat.le_of_lt HLT.out)
        refine ⟨k + 1, HLT.out, by go_num, Lib.hid ⟨X ++ ⟨x.pt, k, -1⟩ :: Y, ?_, ?_⟩, Lib.hid (HBW.out.trans q5)⟩
        · have e1 : (X ++ (⟨x.pt, k, -1⟩ : En) :: Y).length = O.length + 1 := by rw [q1]; simp; omega
          unfold RRow
          rw [e1]; exact q4
        · rw [pts_take h.cs k x HX.out]
          have := rord_call (p := x.pt) HI.out (by have := HLT.out; have := H1.out; omega) q1 q2 q3
          rw [hlen] at this
          exact this
      case measure => have := HLT.out; simp [intOf]; omega
    · obtain rfl : k = h.cs.length := by omega
      rw [List.take_length] at HO
      have hd0 : (h.ds.length : Int) ≤ 60 := by have := H2.out; omega
      clear hk hlt
      go_wp2_with fail
      clear c0
      go_loopw [3, 5] (fun v3 i wr => ∃ k : Nat, k ≤ h.ds.length ∧ i = .int .i64 k ∧ Hid (∃ O, RRow wr w1.heap.size v3 O ∧ IsOrd (HC.pts h.cs) (HD.sts (h.ds.take k)) O) ∧ Hid (Below w1.heap.size w1 wr)) (fun _ i _ => h.ds.length - (intOf i).toNat)
      case atStart => exact ⟨0, by omega, rfl, HO, HBW⟩
      case round =>
        clear HBW HO HS1
        obtain ⟨k, hk, rfl, HO, HBW⟩ := hrel
        have c0 : wr.cell? ⟨w.heap.size, 1, none⟩ = some (.slice h.da h.ds.length h.dc) := hblk ((HBW.out.block _ (Array.getElem?_eq_some_iff.1 HZ.out).1).trans HZ.out) 1
        have HS1 := Lib.hid HBW.out.size
        by_cases hlt : k < h.ds.length
        · have hlt' : (k : Int) < h.ds.length := by omega
          obtain ⟨b, off, x, hca, hx, hwf, g0, gs⟩ := (HR.out.ds.below HBW.out).at k hlt
          clear gs hwf
          have HX := Lib.hid hx; have HLT := Lib.hid hlt
          rw [hca] at c0
          clear hca hx hlt hk
          obtain ⟨O, hO1, hO2⟩ := HO.out
          have HP2 := Lib.hid (rput_any ⟨x.st, -1, k⟩ hO1 (by have := hO2.len; have := HLT.out; have := H1.out; have := H2.out; simp [HC.pts, HD.sts] at *; omega) HS1.out)
          have HI := Lib.hid hO2
          clear hO1 hO2 HO
          go_wp2_with (go_at_call 34; refine HP2.out.mono ?_; intro e w3 hh; have HH := Lib.hid hh; clear hh; obtain ⟨v', X, Y, hh1, q⟩ := HH.out; subst hh1; have HQ := Lib.hid q; clear q)
          go_roundw
          case rel =>
            obtain ⟨q1, q2, q3, q4, q5⟩ := HQ.out
            have hlen : (HD.sts (h.ds.take k)).length = k := sts_len h.ds k (Nat.le_of_lt HLT.out)
            refine ⟨k + 1, HLT.out, by go_num, Lib.hid ⟨X ++ ⟨x.st, -1, k⟩ :: Y, ?_, ?_⟩, Lib.hid (HBW.out.trans q5)⟩
            · have e1 : (X ++ (⟨x.st, -1, k⟩ : En) :: Y).length = O.length + 1 := by rw [q1]; simp; omega
              unfold RRow
              rw [e1]; exact q4
            · rw [sts_take h.ds k x HX.out]
              have := rord_drop (p := x.st) HI.out (by have := H1.out; simp [HC.pts]; omega) q1 q2 q3
              rw [hlen] at this
              exact this
          case measure => have := HLT.out; simp [intOf]; omega
        · obtain rfl : k = h.ds.length := by omega
          rw [List.take_length] at HO
          clear hk hlt
          go_wp2_with fail
          go_ret
          obtain ⟨O, q1, q2⟩ := HO.out
          exact ⟨_, O, rfl, own_low q1 HB.out.size, q2, HB.out.trans (HBW.out.mono HB.out.size)⟩
end Go.Proofs.Ytmagpbbjjkmbpaa
