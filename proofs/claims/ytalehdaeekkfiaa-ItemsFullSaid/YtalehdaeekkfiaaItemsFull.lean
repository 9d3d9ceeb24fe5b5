/-
  The walk of ItemsFull.
-/
import Derived.Test.YtalehdaeekkfiaaItemsStay
namespace Go.Proofs.Ytalehdaeekkfiaa
open Go.RowKit
set_option linter.unusedVariables false

/-- The record with an Id and nothing else. -/
def idItm (n : Int) : Itm := ⟨⟨#[]⟩, ⟨#[]⟩, 0, n, 0, 0⟩
/-- The first k of them. -/
def fill (k : Nat) : List Itm := (List.range k).map fun (j : Nat) => idItm ((j : Int) + 1)
theorem fill_len (k : Nat) : (fill k).length = k := by simp [fill]
theorem fill_next (k : Nat) : fill (k + 1) = fill k ++ [idItm ((k : Int) + 1)] := by simp [fill, List.range_succ]
theorem fill_get (k j : Nat) (h : j < k) : (fill k)[j]? = some (idItm ((j : Int) + 1)) := by simp [fill, h]

set_option maxRecDepth 100000 in
set_option maxHeartbeats 2000000 in
theorem walkItemsFull (w : World) :
    Calls Try.prog 7 #[] w fun e w' => e = .returned (.bool true) ∧ Below w.heap.size w w' := by
  go_enter Try.func7, Try.ntmps7
  go_wp2_with fail
  refine (new_arena w.heap.size _ (Nat.le_refl _)).mono ?_
  rintro e w1 ⟨b, S, rfl, hA, hB, -⟩
  go_wp2_with fail
  go_loopw [2] (fun i wr => ∃ (k : Nat) (S : Nat → Prop), k ≤ 1048576 ∧ i = .int .i64 ((k : Int) + 1) ∧ Below w.heap.size w wr ∧ Arena wr w.heap.size b (fill k) S) (fun i _ => (1048577 - intOf i).toNat)
  case atStart => exact ⟨0, S, by omega, rfl, hB, hA⟩
  case round =>
    clear hA hB
    obtain ⟨k, S, hk, rfl, hB, hA⟩ := hrel
    by_cases hlt : k < 1048576
    · have hI := add_len (idItm ((k : Int) + 1)) k _ _ _ _ _ hA hB.size (fill_len k) hlt
      have d1 : (k : Int) + 1 ≤ 1048576 := by omega
      go_wp2_with fail
      refine hI.mono ?_
      rintro e w2 ⟨rfl, S2, hA2, hK, hS2⟩
      replace hB := keeps_below hK hB hB.size (fun j hj => (hA.fp j hj).1)
      clear hA hK hS2 hI
      go_wp2
      go_roundw
      case rel => exact ⟨k + 1, S2, by omega, by go_num, hB, by rw [fill_next]; exact hA2⟩
      case measure => simp [intOf]; omega
    · have hk2 : k = 1048576 := by omega
      have HK := Lib.hid hk2
      have d2 : decide ((k : Int) + 1 ≤ 1048576) = false := by rw [decide_eq_false_iff_not]; omega
      have hI := add_full (idItm 7) _ _ _ _ _ hA (by rw [fill_len]; exact hk2)
      have hlen : (fill k).length ≤ 1048576 := by rw [fill_len]; omega
      have HG1 : Hid ((fill k)[((1 : Int) - 1).toNat]? = some (idItm 1)) := by
        show _ = _
        have e : ((1 : Int) - 1).toNat = 0 := by omega
        rw [e, fill_get k 0 (by omega)]; rfl
      have HG2 : Hid ((fill k)[((1048576 : Int) - 1).toNat]? = some (idItm 1048576)) := by
        show _ = _
        have e : ((1048576 : Int) - 1).toNat = 1048575 := by omega
        have e2 : ((1048575 : Nat) : Int) + 1 = 1048576 := by omega
        rw [e, fill_get k 1048575 (by omega), e2]
      clear hk2 hk hlt
      go_wp2_with fail
      refine Calls.mono hI ?_
      rintro e w2 ⟨rfl, h1⟩
      replace hA := hA.below h1
      replace hB := hB.trans (h1.mono hB.size)
      clear h1 hI
      go_wp2_with fail
      refine (at_in_i _ _ _ _ 1 (idItm 1) _ hA hlen (by omega) HG1.out).mono ?_
      rintro e w3 ⟨rfl, h1⟩
      have bx := Box.new w3 (idItm 1)
      replace hA := (hA.below h1).below ((Below.refl w3.heap.size w3).alloc (Nat.le_refl _) (.cells (Itm.cells (idItm 1)).toArray 36))
      replace hB := (hB.trans (h1.mono hB.size)).alloc (Nat.le_trans hB.size h1.size) (.cells (Itm.cells (idItm 1)).toArray 36)
      clear h1
      go_wp2_with fail
      refine (at_in_i _ _ _ _ 1048576 (idItm 1048576) _ hA hlen (by omega) HG2.out).mono ?_
      rintro e w4 ⟨rfl, h1⟩
      replace bx := (bx.below h1).alloc (.cells (Itm.cells (idItm 1048576)).toArray 36)
      have by0 := Box.new w4 (idItm 1048576)
      replace hA := (hA.below h1).below ((Below.refl w4.heap.size w4).alloc (Nat.le_refl _) (.cells (Itm.cells (idItm 1048576)).toArray 36))
      replace hB := (hB.trans (h1.mono hB.size)).alloc (Nat.le_trans hB.size h1.size) (.cells (Itm.cells (idItm 1048576)).toArray 36)
      clear h1
      go_wp2_with fail
      refine (at_out_lit _ _ _ _ 1048577 _ hA hlen (by omega)).mono ?_
      rintro e w5 ⟨rfl, h1⟩
      replace bx := (bx.below h1).alloc (.cells (Itm.cells zItm).toArray 36)
      replace by0 := (by0.below h1).alloc (.cells (Itm.cells zItm).toArray 36)
      replace hA := (hA.below h1).below ((Below.refl w5.heap.size w5).alloc (Nat.le_refl _) (.cells (Itm.cells zItm).toArray 36))
      replace hB := (hB.trans (h1.mono hB.size)).alloc (Nat.le_trans hB.size h1.size) (.cells (Itm.cells zItm).toArray 36)
      clear h1
      have x3 := bx.cells.2.2.2.1
      have y3 := by0.cells.2.2.2.1
      simp only [idItm] at x3 y3
      have hc := count_arena _ _ _ _ _ hA
      rw [fill_len, HK.out] at hc
      go_wp2_with fail
      refine hc.mono ?_
      rintro e w6 ⟨rfl, rfl⟩
      go_wp2_with (go_at_call 13; refine (lives06 _).mono ?_; rintro e W' ⟨rfl, hb⟩)
      go_ret
      exact ⟨rfl, hB.trans (hb.mono hB.size)⟩
end Go.Proofs.Ytalehdaeekkfiaa
