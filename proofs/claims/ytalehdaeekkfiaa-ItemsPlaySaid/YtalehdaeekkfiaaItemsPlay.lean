/-
  The walk of ItemsPlay.
-/
import Derived.Test.YtalehdaeekkfiaaItemsRefAt
import Derived.Test.YtalehdaeekkfiaaItemsStay
namespace Go.Proofs.Ytalehdaeekkfiaa
open Go.RowKit
set_option linter.unusedVariables false

/-- The program's arena and the reference's, beside each other, with the same records. -/
structure ArPair (w : World) (base ba br : Nat) (l : List Itm) (SA SR : Nat → Prop) : Prop where
  a : Arena w base ba l SA
  r : RArena w base br l SR
  apart : ∀ k, SA k → SR k → False
theorem ArPair.below {w w' : World} {base ba br : Nat} {l : List Itm} {SA SR : Nat → Prop} (h : ArPair w base ba br l SA SR) (hb : Below w.heap.size w w') : ArPair w' base ba br l SA SR :=
  ⟨h.a.below hb, h.r.below hb, h.apart⟩
theorem ArPair.add {w w1 w2 : World} {base ba br : Nat} {l l' : List Itm} {SA SR SA' SR' : Nat → Prop} (h : ArPair w base ba br l SA SR) (hA : Arena w1 base ba l' SA') (hk : Keeps SA w w1) (hs : ∀ k, SA' k → SA k ∨ w.heap.size ≤ k)
    (hR : RArena w2 base br l' SR') (hk2 : Keeps SR w1 w2) (hs2 : ∀ k, SR' k → SR k ∨ w1.heap.size ≤ k) : ArPair w2 base ba br l' SA' SR' := by
  have hap : ∀ k, SA' k → SR k → False := fun k ha hr => (hs k ha).elim (fun c => h.apart k c hr) (fun c => by have := (h.r.fp k hr).2; omega)
  exact ⟨hA.keeps hk2 (fun k ha hr => hap k ha hr), hR, fun k ha hr => (hs2 k hr).elim (fun c => hap k ha c) (fun c => by have := (hA.fp k ha).2; omega)⟩

theorem Ints.slice {k : IntKind} {w : World} {v : Value} {l : List Int} (h : Ints k w v l) : ∃ a cap, v = .slice a l.length cap ∧ l.length ≤ cap ∧ cap ≤ maxLen := by
  obtain ⟨a, cap, rfl, h1, h2, h3, h4⟩ := h
  exact ⟨a, cap, rfl, h1, h2⟩
theorem Ints.cell {k : IntKind} {w : World} {a : Option Addr} {cap : Nat} {l : List Int} (h : Ints k w (.slice a l.length cap) l) (i : Nat) (hi : i < l.length) :
    ∃ b off x, a = some ⟨b, off, none⟩ ∧ l[i]? = some x ∧ w.cell? ⟨b, off + i, none⟩ = some (.int k x) ∧ (Lit.int k x).wf = true := by
  obtain ⟨a', cap', hv, h1, h2, h3, hw, h4⟩ := h
  simp only [Value.slice.injEq, true_and] at hv
  obtain ⟨rfl, rfl⟩ := hv
  rcases h4 with rfl | ⟨b, off, rfl, h5⟩
  · simp at hi
  · exact ⟨b, off, l[i], rfl, List.getElem?_eq_getElem hi, h5 i hi, hw _ (List.getElem_mem hi)⟩

set_option maxRecDepth 100000 in
set_option maxHeartbeats 2000000 in
theorem walkItemsPlay {H : Type} (w : World) (enc : TypeId × Value → H) (base : Nat) (v : Value) (d : DataW H) (p : List MemPlace) (k : DataW.Trod enc Try.prog w 0 (fun _ => true) true 22 v d p) (o : Value.okWide Try.prog w .any base 22 v)
    (enc2 : TypeId × Value → H) (base2 : Nat) (v2 : Value) (d2 : DataW H) (p2 : List MemPlace) (k2 : DataW.Trod enc2 Try.prog w 0 (fun _ => true) true 23 v2 d2 p2) (o2 : Value.okWide Try.prog w .any base2 23 v2) :
    Calls Try.prog 3 #[v, v2] w fun e w' => e = .returned (.bool true) ∧ Below w.heap.size w w' := by
  obtain ⟨a, n, cap, rfl⟩ := Go.WideShapes.okWide_slice Try.underlying22 o
  obtain ⟨l, hl⟩ := itms_of (opened leaves_items k).1
  obtain ⟨a2, n2, cap2, rfl⟩ := Go.WideShapes.okWide_slice Try.underlying23 o2
  obtain ⟨m, hm⟩ := ints_of (opened leaves_ints k2).1
  clear k o k2 o2
  obtain ⟨a', cap', hv, hc1, hc2⟩ := hl.slice
  simp only [Value.slice.injEq] at hv
  obtain ⟨rfl, rfl, rfl⟩ := hv
  obtain ⟨a', cap', hv, hd1, hd2⟩ := hm.slice
  simp only [Value.slice.injEq] at hv
  obtain ⟨rfl, rfl, rfl⟩ := hv
  unfold maxLen at hc2 hd2
  by_cases hbig : 300 < l.length
  · have hbig' : (300 : Int) < (l.length : Int) := by omega
    go_enter Try.func3, Try.ntmps3
    go_wp2_with (go_at_call 13; refine (lives06 _).mono ?_; rintro e W' ⟨rfl, hb⟩)
    go_ret
    exact ⟨rfl, hb⟩
  · have hbig' : (l.length : Int) ≤ 300 := by omega
    go_enter Try.func3, Try.ntmps3
    go_wp2_with fail
    refine (new_arena w.heap.size _ (Nat.le_refl _)).mono ?_
    rintro e w1 ⟨ba, SA, rfl, hA, hB, -⟩
    have hR := void_rarena w.heap.size w1 hB.size
    have hT : ArPair (w1.alloc (.cells #[.slice none 0 0] 29)) w.heap.size ba w1.heap.size [] SA (rarenaFp w1.heap.size none) :=
      ⟨hA.below ((Below.refl _ _).alloc (Nat.le_refl _) _), hR, fun k h1 h2 => by have := (hA.fp k h1).2; rcases h2 with h2 | ⟨a, h2, _⟩; omega; cases h2⟩
    replace hB := hB.alloc hB.size (.cells #[.slice none 0 0] 29)
    clear hA hR
    go_wp2_with fail
    generalize w1.heap.size = br at *
    go_loopw [7] (fun i wr => ∃ (k : Nat) (SA SR : Nat → Prop), k ≤ l.length ∧ i = .int .i64 k ∧ Below w.heap.size w wr ∧ ArPair wr w.heap.size ba br (l.take k) SA SR) (fun i _ => l.length - (intOf i).toNat)
    case atStart => exact ⟨0, _, _, by omega, rfl, hB, by simpa using hT⟩
    case round =>
      clear hB hT
      obtain ⟨k, SA, SR, hk, rfl, hB, hT⟩ := hrel
      by_cases hlt : k < l.length
      · obtain ⟨g, off, x, rfl, hx, q0, q1, q2, q3, q4, q5⟩ := hl.cell k hlt
        have hg : g < w.heap.size := World.block_lt_of_cell? _ _ q0
        replace q0 := (hB.cell (p := ⟨g, _, none⟩) hg).trans q0
        replace q1 := (hB.cell (p := ⟨g, _, none⟩) hg).trans q1
        replace q2 := (hB.cell (p := ⟨g, _, none⟩) hg).trans q2
        replace q3 := (hB.cell (p := ⟨g, _, none⟩) hg).trans q3
        replace q4 := (hB.cell (p := ⟨g, _, none⟩) hg).trans q4
        replace q5 := (hB.cell (p := ⟨g, _, none⟩) hg).trans q5
        have hlen : (l.take k).length = k := by simp; omega
        have hlen2 : (l.take k ++ [x]).length = k + 1 := by simp; omega
        have HX := Lib.hid hx
        have HLEN2 := Lib.hid hlen2
        have HBIG : Hid (l.length ≤ 300) := by show _ ≤ _; omega
        clear hx hlen2
        have hA' := add_len x k _ _ _ _ _ hT.a hB.size hlen (by omega)
        have d1 : (k : Int) < (l.length : Int) := by omega
        go_wp2_with fail
        refine hA'.mono ?_
        rintro e w3 ⟨rfl, S2, hA2, hK, hS2⟩
        have hB2 := keeps_below hK hB hB.size (fun j hj => (hT.a.fp j hj).1)
        have hR2 := hT.r.keeps hK (fun k h1 h2 => hT.apart k h2 h1)
        have hR' := radd_any x _ _ k _ _ _ hR2 hB2.size hlen (by omega)
        clear hA' hlen
        have hg' : g < w3.heap.size := Nat.lt_of_lt_of_le hg hB2.size
        have r0 := (hB2.cell (p := ⟨g, off + k * 6, none⟩) hg).trans ((hB.cell (p := ⟨g, _, none⟩) hg).symm.trans q0)
        have r1 := (hB2.cell (p := ⟨g, off + k * 6 + 1, none⟩) hg).trans ((hB.cell (p := ⟨g, _, none⟩) hg).symm.trans q1)
        have r2 := (hB2.cell (p := ⟨g, off + k * 6 + 2, none⟩) hg).trans ((hB.cell (p := ⟨g, _, none⟩) hg).symm.trans q2)
        have r3 := (hB2.cell (p := ⟨g, off + k * 6 + 3, none⟩) hg).trans ((hB.cell (p := ⟨g, _, none⟩) hg).symm.trans q3)
        have r4 := (hB2.cell (p := ⟨g, off + k * 6 + 4, none⟩) hg).trans ((hB.cell (p := ⟨g, _, none⟩) hg).symm.trans q4)
        have r5 := (hB2.cell (p := ⟨g, off + k * 6 + 5, none⟩) hg).trans ((hB.cell (p := ⟨g, _, none⟩) hg).symm.trans q5)
        go_wp2_with fail
        refine hR'.mono ?_
        rintro e w4 ⟨rfl, S3, hR3, hK2, hS3⟩
        have hB3 := keeps_below hK2 hB2 hB2.size (fun j hj => (hR2.fp j hj).1)
        have hT3 := hT.add hA2 hK hS2 hR3 hK2 hS3
        have ca := count_arena _ _ _ _ _ hT3.a
        have cr := rcount_arena _ _ _ _ _ hT3.r
        clear hR' hT hB hA2 hK hS2 hR3 hK2 hS3 hB2 hR2 r0 r1 r2 r3 r4 r5 q0 q1 q2 q3 q4 q5
        rw [HLEN2.out] at ca cr
        go_wp2_with fail
        refine ca.mono ?_
        rintro e w' ⟨rfl, rfl⟩
        go_wp2_with fail
        refine cr.mono ?_
        rintro e w' ⟨rfl, rfl⟩
        clear ca cr
        by_cases hlm : k < m.length
        · obtain ⟨g2, off2, q, rfl, hq, z0, hqw⟩ := hm.cell k hlm
          have hg2 : g2 < w.heap.size := World.block_lt_of_cell? _ _ z0
          have z1 : w4.cell? ⟨g2, off2 + k, none⟩ = some (.int .i64 q) := (hB3.cell (p := ⟨g2, _, none⟩) hg2).trans z0
          have d2 : (k : Int) < (m.length : Int) := by omega
          have d3 : (0 : Int) ≤ (k : Int) := by omega
          clear hq hqw
          have hl3 : (l.take k ++ [x]).length ≤ 1048576 := by rw [HLEN2.out]; have := HBIG.out; omega
          by_cases hin : 1 ≤ q ∧ q ≤ (k : Int) + 1
          · obtain ⟨y, hy⟩ : ∃ y, (l.take k ++ [x])[(q - 1).toNat]? = some y := ⟨_, List.getElem?_eq_getElem (by rw [HLEN2.out]; omega)⟩
            have HY := Lib.hid hy
            clear hy
            go_wp2_with fail
            refine (at_in_i _ _ _ _ q y _ hT3.a hl3 hin.1 HY.out).mono ?_
            rintro e w5 ⟨rfl, h1⟩
            have bx := Box.new w5 y
            have hT4 := (hT3.below h1).below ((Below.refl w5.heap.size w5).alloc (Nat.le_refl _) (.cells (Itm.cells y).toArray 36))
            have hB4 := (hB3.trans (h1.mono hB3.size)).alloc (Nat.le_trans hB3.size h1.size) (.cells (Itm.cells y).toArray 36)
            have hg5 : g2 < w5.heap.size := Nat.lt_of_lt_of_le hg2 (Nat.le_trans hB3.size h1.size)
            have z2 : w5.cell? ⟨g2, off2 + k, none⟩ = some (.int .i64 q) := (h1.cell (p := ⟨g2, _, none⟩) (Nat.lt_of_lt_of_le hg2 hB3.size)).trans z1
            clear h1 z1
            go_wp2_with fail
            refine (rat_in _ _ _ _ q y _ hT4.r hl3 hin.1 HY.out).mono ?_
            rintro e w6 ⟨rfl, h1⟩
            replace bx := bx.below h1
            have hT5 := (hT4.below h1).below ((Below.refl w6.heap.size w6).alloc (Nat.le_refl _) (.cells (Itm.cells y).toArray 36))
            have hB5 := (hB4.trans (h1.mono hB4.size)).alloc (Nat.le_trans hB4.size h1.size) (.cells (Itm.cells y).toArray 36)
            obtain ⟨y0, y1, y2, y3, y4, y5⟩ := bx.cells
            have ly := bx.lt
            clear h1 z2 bx hT4 hB4 hT3 hB3
            go_wp2
            go_roundw
            case rel => exact ⟨k + 1, S2, S3, by omega, by go_num, hB5, by rw [take_next _ _ _ HX.out]; exact hT5⟩
            case measure => simp [intOf]; omega
          · have ho : ¬ (1 ≤ q ∧ q ≤ ((l.take k ++ [x]).length : Int)) := by rw [HLEN2.out]; omega
            have HO := Lib.hid ho
            clear ho
            go_wp2_with fail
            refine (at_out_lit _ _ _ _ q _ hT3.a hl3 HO.out).mono ?_
            rintro e w5 ⟨rfl, h1⟩
            have bx := Box.new w5 zItm
            have hT4 := (hT3.below h1).below ((Below.refl w5.heap.size w5).alloc (Nat.le_refl _) (.cells (Itm.cells zItm).toArray 36))
            have hB4 := (hB3.trans (h1.mono hB3.size)).alloc (Nat.le_trans hB3.size h1.size) (.cells (Itm.cells zItm).toArray 36)
            have hg5 : g2 < w5.heap.size := Nat.lt_of_lt_of_le hg2 (Nat.le_trans hB3.size h1.size)
            have z2 : w5.cell? ⟨g2, off2 + k, none⟩ = some (.int .i64 q) := (h1.cell (p := ⟨g2, _, none⟩) (Nat.lt_of_lt_of_le hg2 hB3.size)).trans z1
            clear h1 z1
            go_wp2_with fail
            refine (rat_out _ _ _ _ q _ hT4.r HO.out).mono ?_
            rintro e w6 ⟨rfl, h1⟩
            replace bx := bx.below h1
            have hT5 := (hT4.below h1).below ((Below.refl w6.heap.size w6).alloc (Nat.le_refl _) (.cells (Itm.cells zItm).toArray 36))
            have hB5 := (hB4.trans (h1.mono hB4.size)).alloc (Nat.le_trans hB4.size h1.size) (.cells (Itm.cells zItm).toArray 36)
            obtain ⟨y0, y1, y2, y3, y4, y5⟩ := bx.cells
            have ly := bx.lt
            clear h1 z2 bx hT4 hB4 hT3 hB3
            go_wp2
            go_roundw
            case rel => exact ⟨k + 1, S2, S3, by omega, by go_num, hB5, by rw [take_next _ _ _ HX.out]; exact hT5⟩
            case measure => simp [intOf]; omega
        · have d2 : (m.length : Int) ≤ (k : Int) := by omega
          go_wp2
          go_roundw
          case rel => exact ⟨k + 1, S2, S3, by omega, by go_num, hB3, by rw [take_next _ _ _ HX.out]; exact hT3⟩
          case measure => simp [intOf]; omega
      · obtain rfl : k = l.length := by omega
        go_wp2_with (go_at_call 13; refine (lives06 _).mono ?_; rintro e W' ⟨rfl, hb⟩)
        go_ret
        exact ⟨rfl, hB.trans (hb.mono hB.size)⟩
end Go.Proofs.Ytalehdaeekkfiaa
