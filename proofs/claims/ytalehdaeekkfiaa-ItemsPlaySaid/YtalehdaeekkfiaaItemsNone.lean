/-
  The walk of ItemsNone.
-/
import Derived.Test.YtalehdaeekkfiaaItemsVoid
namespace Go.Proofs.Ytalehdaeekkfiaa
open Go.RowKit
set_option linter.unusedVariables false

abbrev zItm : Itm := ⟨⟨#[]⟩, ⟨#[]⟩, 0, 0, 0, 0⟩

theorem Itms.cell {w : World} {a : Option Addr} {cap : Nat} {l : List Itm} (h : Itms w (.slice a l.length cap) l) (i : Nat) (hi : i < l.length) :
    ∃ b off x, a = some ⟨b, off, none⟩ ∧ l[i]? = some x ∧ w.cell? ⟨b, off + i * 6, none⟩ = some (.string x.key) ∧ w.cell? ⟨b, off + i * 6 + 1, none⟩ = some (.string x.val) ∧ w.cell? ⟨b, off + i * 6 + 2, none⟩ = some (.int .u32 x.flags) ∧
    w.cell? ⟨b, off + i * 6 + 3, none⟩ = some (.int .u64 x.id) ∧ w.cell? ⟨b, off + i * 6 + 4, none⟩ = some (.int .i64 x.dies) ∧ w.cell? ⟨b, off + i * 6 + 5, none⟩ = some (.int .i64 x.gen) := by
  obtain ⟨a', cap', hv, h1, h2, h3, h4⟩ := h
  simp only [Value.slice.injEq, true_and] at hv
  obtain ⟨rfl, rfl⟩ := hv
  rcases h4 with rfl | ⟨b, off, rfl, h5⟩
  · simp at hi
  · have h6 := h5 i hi
    refine ⟨b, off, l[i], rfl, List.getElem?_eq_getElem hi, h6 0 (by omega), ?_, ?_, ?_, ?_, ?_⟩
    · rw [Nat.add_assoc]; exact h6 1 (by omega)
    · rw [Nat.add_assoc]; exact h6 2 (by omega)
    · rw [Nat.add_assoc]; exact h6 3 (by omega)
    · rw [Nat.add_assoc]; exact h6 4 (by omega)
    · rw [Nat.add_assoc]; exact h6 5 (by omega)
theorem Itms.slice {w : World} {v : Value} {l : List Itm} (h : Itms w v l) : ∃ a cap, v = .slice a l.length cap ∧ l.length ≤ cap ∧ cap ≤ maxLen := by
  obtain ⟨a, cap, rfl, h1, h2, h3, h4⟩ := h
  exact ⟨a, cap, rfl, h1, h2⟩

set_option maxRecDepth 10000 in
set_option maxHeartbeats 1600000 in
theorem walkItemsNone {H : Type} (w : World) (enc : TypeId × Value → H) (base : Nat) (v : Value) (d : DataW H) (p : List MemPlace) (k : DataW.Trod enc Try.prog w 0 (fun _ => true) true 22 v d p) (o : Value.okWide Try.prog w .any base 22 v)
    (ref : Int) (hr : (Lit.int .i64 ref).wf = true) :
    Calls Try.prog 6 #[v, .int .i64 ref] w fun e w' => e = .returned (.bool true) ∧ Below w.heap.size w w' := by
  obtain ⟨a, n, cap, rfl⟩ := Go.WideShapes.okWide_slice Try.underlying22 o
  obtain ⟨l, hl⟩ := itms_of (opened leaves_items k).1
  clear k o
  obtain ⟨a', cap', hv, hc1, hc2⟩ := hl.slice
  simp only [Value.slice.injEq] at hv
  obtain ⟨rfl, rfl, rfl⟩ := hv
  unfold maxLen at hc2
  by_cases hbig : 100 < l.length
  · have hbig' : (100 : Int) < (l.length : Int) := by omega
    go_enter Try.func6, Try.ntmps6
    go_wp2_with (go_at_call 13; refine (lives06 _).mono ?_; rintro e W' ⟨rfl, hb⟩)
    go_ret
    exact ⟨rfl, hb⟩
  · have hbig' : (l.length : Int) ≤ 100 := by omega
    go_enter Try.func6, Try.ntmps6
    go_wp2_with fail
    refine (new_arena w.heap.size _ (Nat.le_refl _)).mono ?_
    rintro e w1 ⟨b, S, rfl, hA, hB, -⟩
    go_wp2_with fail
    go_loopw [6] (fun i wr => ∃ (k : Nat) (S : Nat → Prop), k ≤ l.length ∧ i = .int .i64 k ∧ Below w.heap.size w wr ∧ Arena wr w.heap.size b (l.take k) S) (fun i _ => l.length - (intOf i).toNat)
    case atStart => exact ⟨0, S, by omega, rfl, hB, by simpa using hA⟩
    case round =>
      clear hA hB S
      obtain ⟨k, S, hk, rfl, hB, hA⟩ := hrel
      by_cases hlt : k < l.length
      · obtain ⟨g, off, x, rfl, hx, q0, q1, q2, q3, q4, q5⟩ := hl.cell k hlt
        have hg : g < w.heap.size := World.block_lt_of_cell? _ _ q0
        replace q0 := (hB.cell (p := ⟨g, _, none⟩) hg).trans q0
        replace q1 := (hB.cell (p := ⟨g, _, none⟩) hg).trans q1
        replace q2 := (hB.cell (p := ⟨g, _, none⟩) hg).trans q2
        replace q3 := (hB.cell (p := ⟨g, _, none⟩) hg).trans q3
        replace q4 := (hB.cell (p := ⟨g, _, none⟩) hg).trans q4
        replace q5 := (hB.cell (p := ⟨g, _, none⟩) hg).trans q5
        have hA' := add_lit x _ _ _ _ _ hA hB.size (by simp; omega)
        have HX := Lib.hid hx
        clear hx
        have d1 : (k : Int) < (l.length : Int) := by omega
        go_wp2_with (first | (go_at_call 15; refine hA'.mono ?_; rintro e w2 ⟨rfl, S2, hA2, hK, hS2⟩))
        go_roundw
        case rel =>
          refine ⟨k + 1, S2, by omega, by go_num, keeps_below hK hB hB.size (fun j hj => (hA.fp j hj).1), ?_⟩
          rw [List.take_add_one, HX.out]; exact hA2
        case measure => simp [intOf]; omega
      · obtain rfl : k = l.length := by omega
        rw [List.take_length] at hA
        by_cases hin : 1 ≤ ref ∧ ref ≤ l.length
        · obtain ⟨n, rfl⟩ := Int.eq_ofNat_of_zero_le (show 0 ≤ ref by omega)
          obtain ⟨x, hx⟩ : ∃ x, l[n - 1]? = some x := ⟨_, List.getElem?_eq_getElem (show n - 1 < l.length by omega)⟩
          have HX := Lib.hid hx
          clear hx
          have e1 : decide ((1 : Int) ≤ (n : Int)) = true := by simp; omega
          have e2 : decide (n ≤ l.length) = true := by simp; omega
          have e3 : decide (1 ≤ n) = true := by simp; omega
          have e4 : decide ((n : Int) ≤ (l.length : Int)) = true := by simp; omega
          go_wp2_with fail
          refine (at_in_lit _ _ _ _ n x _ hA (by omega) (by omega) HX.out).mono ?_
          rintro e w2 ⟨rfl, h1⟩
          have bx := Box.new w2 x
          replace hA := (hA.below h1).below ((Below.refl w2.heap.size w2).alloc (Nat.le_refl _) (.cells (Itm.cells x).toArray 36))
          replace hB := (hB.trans (h1.mono hB.size)).alloc (Nat.le_trans hB.size h1.size) (.cells (Itm.cells x).toArray 36)
          clear h1
          go_wp2_with fail
          refine (at_out_lit _ _ _ _ 0 _ hA (by omega) (by omega)).mono ?_
          rintro e w3 ⟨rfl, h1⟩
          replace bx := (bx.below h1).alloc (.cells (Itm.cells zItm).toArray 36)
          have by0 := Box.new w3 zItm
          replace hA := (hA.below h1).below ((Below.refl w3.heap.size w3).alloc (Nat.le_refl _) (.cells (Itm.cells zItm).toArray 36))
          replace hB := (hB.trans (h1.mono hB.size)).alloc (Nat.le_trans hB.size h1.size) (.cells (Itm.cells zItm).toArray 36)
          clear h1
          go_wp2_with fail
          refine (at_out_lit _ _ _ _ _ _ hA (by omega) (by omega)).mono ?_
          rintro e w4 ⟨rfl, h1⟩
          replace bx := bx.below h1
          replace by0 := by0.below h1
          replace hB := (hB.trans (h1.mono hB.size))
          clear h1
          obtain ⟨x0, x1, x2, x3, x4, x5⟩ := bx.cells
          obtain ⟨y0, y1, y2, y3, y4, y5⟩ := by0.cells
          have lx := bx.lt
          have ly := by0.lt
          go_wp2_with (go_at_call 13; refine (lives06 _).mono ?_; rintro e W' ⟨rfl, hb⟩)
          go_ret
          exact ⟨rfl, (hB.alloc hB.size _).trans (hb.mono (by have := hB.size; simp; omega))⟩
        · have e5 : (decide (1 ≤ ref) && decide (ref ≤ (l.length : Int))) = false := by simp; omega
          have e6 : decide (1 ≤ ref) = false ∨ (decide (1 ≤ ref) = true ∧ decide (ref ≤ (l.length : Int)) = false) := by simp; omega
          have e7 : 0 ≤ l.length := by omega
          clear e5
          rcases e6 with e6 | ⟨e6, e7⟩
          · have hlow : ref < 1 := by simpa using e6
            go_wp2_with fail
            refine (at_out_lit _ _ _ _ ref _ hA (by omega) hin).mono ?_
            rintro e w2 ⟨rfl, h1⟩
            have bx := Box.new w2 zItm
            replace hA := (hA.below h1).below ((Below.refl w2.heap.size w2).alloc (Nat.le_refl _) (.cells (Itm.cells zItm).toArray 36))
            replace hB := (hB.trans (h1.mono hB.size)).alloc (Nat.le_trans hB.size h1.size) (.cells (Itm.cells zItm).toArray 36)
            clear h1
            go_wp2_with fail
            refine (at_out_lit _ _ _ _ 0 _ hA (by omega) (by omega)).mono ?_
            rintro e w3 ⟨rfl, h1⟩
            replace bx := (bx.below h1).alloc (.cells (Itm.cells zItm).toArray 36)
            have by0 := Box.new w3 zItm
            replace hA := (hA.below h1).below ((Below.refl w3.heap.size w3).alloc (Nat.le_refl _) (.cells (Itm.cells zItm).toArray 36))
            replace hB := (hB.trans (h1.mono hB.size)).alloc (Nat.le_trans hB.size h1.size) (.cells (Itm.cells zItm).toArray 36)
            clear h1
            go_wp2_with fail
            refine (at_out_lit _ _ _ _ _ _ hA (by omega) (by omega)).mono ?_
            rintro e w4 ⟨rfl, h1⟩
            replace bx := bx.below h1
            replace by0 := by0.below h1
            replace hB := (hB.trans (h1.mono hB.size))
            clear h1
            obtain ⟨x0, x1, x2, x3, x4, x5⟩ := bx.cells
            obtain ⟨y0, y1, y2, y3, y4, y5⟩ := by0.cells
            have lx := bx.lt
            have ly := by0.lt
            go_wp2_with (go_at_call 13; refine (lives06 _).mono ?_; rintro e W' ⟨rfl, hb⟩)
            go_ret
            exact ⟨rfl, (hB.alloc hB.size _).trans (hb.mono (by have := hB.size; simp; omega))⟩
          · have hlow : 1 ≤ ref := by simpa using e6
            have hhigh : (l.length : Int) < ref := by simpa using e7
            go_wp2_with fail
            refine (at_out_lit _ _ _ _ ref _ hA (by omega) hin).mono ?_
            rintro e w2 ⟨rfl, h1⟩
            have bx := Box.new w2 zItm
            replace hA := (hA.below h1).below ((Below.refl w2.heap.size w2).alloc (Nat.le_refl _) (.cells (Itm.cells zItm).toArray 36))
            replace hB := (hB.trans (h1.mono hB.size)).alloc (Nat.le_trans hB.size h1.size) (.cells (Itm.cells zItm).toArray 36)
            clear h1
            go_wp2_with fail
            refine (at_out_lit _ _ _ _ 0 _ hA (by omega) (by omega)).mono ?_
            rintro e w3 ⟨rfl, h1⟩
            replace bx := (bx.below h1).alloc (.cells (Itm.cells zItm).toArray 36)
            have by0 := Box.new w3 zItm
            replace hA := (hA.below h1).below ((Below.refl w3.heap.size w3).alloc (Nat.le_refl _) (.cells (Itm.cells zItm).toArray 36))
            replace hB := (hB.trans (h1.mono hB.size)).alloc (Nat.le_trans hB.size h1.size) (.cells (Itm.cells zItm).toArray 36)
            clear h1
            go_wp2_with fail
            refine (at_out_lit _ _ _ _ _ _ hA (by omega) (by omega)).mono ?_
            rintro e w4 ⟨rfl, h1⟩
            replace bx := bx.below h1
            replace by0 := by0.below h1
            replace hB := (hB.trans (h1.mono hB.size))
            clear h1
            obtain ⟨x0, x1, x2, x3, x4, x5⟩ := bx.cells
            obtain ⟨y0, y1, y2, y3, y4, y5⟩ := by0.cells
            have lx := bx.lt
            have ly := by0.lt
            go_wp2_with (go_at_call 13; refine (lives06 _).mono ?_; rintro e W' ⟨rfl, hb⟩)
            go_ret
            exact ⟨rfl, (hB.alloc hB.size _).trans (hb.mono (by have := hB.size; simp; omega))⟩
end Go.Proofs.Ytalehdaeekkfiaa
