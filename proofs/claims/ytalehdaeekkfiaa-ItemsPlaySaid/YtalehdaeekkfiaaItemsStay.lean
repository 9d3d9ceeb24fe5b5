/-
  The walk of ItemsStay.
-/
import Derived.Test.YtalehdaeekkfiaaItemsNone
namespace Go.Proofs.Ytalehdaeekkfiaa
open Go.RowKit
set_option linter.unusedVariables false

theorem add_len (x : Itm) (n : Nat) (base b : Nat) (l : List Itm) (S : Nat → Prop) (w : World) (h : Arena w base b l S) (hbase : base ≤ w.heap.size) (hn : l.length = n) (hl : n < 1048576) :
    Calls Try.prog 15 #[.pointer (some ⟨b, 0, none⟩), .agg #[.string (x).key, .string (x).val, .int .u32 (x).flags, .int .u64 (x).id, .int .i64 (x).dies, .int .i64 (x).gen]] w fun e w' => e = .returned (.tuple #[.int .i64 (n + 1 : Nat), .int .i64 0]) ∧
      ∃ S', Arena w' base b (l ++ [x]) S' ∧ Keeps S w w' ∧ ∀ k, S' k → S k ∨ w.heap.size ≤ k := by
  subst hn; exact add_any x base b l S w h hbase hl
theorem at_in_i (base b : Nat) (l : List Itm) (S : Nat → Prop) (r : Int) (x : Itm) (w : World) (h : Arena w base b l S) (hl : l.length ≤ 1048576) (h1 : 1 ≤ r) (h2 : l[(r - 1).toNat]? = some x) :
    Calls Try.prog 19 #[.pointer (some ⟨b, 0, none⟩), .int .i64 r] w fun e w' => e = .returned (.tuple #[.agg #[.string (x).key, .string (x).val, .int .u32 (x).flags, .int .u64 (x).id, .int .i64 (x).dies, .int .i64 (x).gen], .bool true]) ∧ Below w.heap.size w w' := by
  obtain ⟨n, rfl⟩ := Int.eq_ofNat_of_zero_le (show 0 ≤ r by omega)
  exact at_in_lit base b l S n x w h hl (by omega) (by rw [show n - 1 = ((n : Int) - 1).toNat by omega]; exact h2)

/-- Two arenas beside each other. -/
structure TwoArenas (w : World) (base ba bb : Nat) (la lb : List Itm) (SA SB : Nat → Prop) : Prop where
  a : Arena w base ba la SA
  b : Arena w base bb lb SB
  apart : ∀ k, SA k → SB k → False
theorem TwoArenas.below {w w' : World} {base ba bb : Nat} {la lb : List Itm} {SA SB : Nat → Prop} (h : TwoArenas w base ba bb la lb SA SB) (hb : Below w.heap.size w w') : TwoArenas w' base ba bb la lb SA SB :=
  ⟨h.a.below hb, h.b.below hb, h.apart⟩
theorem TwoArenas.addA {w w' : World} {base ba bb : Nat} {la lb la' : List Itm} {SA SB SA' : Nat → Prop} (h : TwoArenas w base ba bb la lb SA SB) (hA : Arena w' base ba la' SA') (hk : Keeps SA w w') (hs : ∀ k, SA' k → SA k ∨ w.heap.size ≤ k) : TwoArenas w' base ba bb la' lb SA' SB :=
  ⟨hA, h.b.keeps hk (fun k hb ha => h.apart k ha hb), fun k ha hb => (hs k ha).elim (fun c => h.apart k c hb) (fun c => by have := (h.b.fp k hb).2; omega)⟩
theorem TwoArenas.addB {w w' : World} {base ba bb : Nat} {la lb lb' : List Itm} {SA SB SB' : Nat → Prop} (h : TwoArenas w base ba bb la lb SA SB) (hB : Arena w' base bb lb' SB') (hk : Keeps SB w w') (hs : ∀ k, SB' k → SB k ∨ w.heap.size ≤ k) : TwoArenas w' base ba bb la lb' SA SB' :=
  ⟨h.a.keeps hk (fun k ha hb => h.apart k ha hb), hB, fun k ha hb => (hs k hb).elim (fun c => h.apart k ha c) (fun c => by have := (h.a.fp k ha).2; omega)⟩

theorem take_next {α : Type} (l : List α) (k : Nat) (x : α) (h : l[k]? = some x) : l.take (k + 1) = l.take k ++ [x] := by rw [List.take_add_one, h]; rfl
theorem take_stay {α : Type} (l : List α) (k : Nat) (h : l.length ≤ k) : l.take (k + 1) = l.take k := by rw [List.take_of_length_le h, List.take_of_length_le (by omega)]

set_option maxRecDepth 10000 in
set_option maxHeartbeats 2000000 in
theorem walkItemsStay {H : Type} (w : World) (enc : TypeId × Value → H) (base : Nat) (v : Value) (d : DataW H) (p : List MemPlace) (k : DataW.Trod enc Try.prog w 0 (fun _ => true) true 22 v d p) (o : Value.okWide Try.prog w .any base 22 v)
    (enc2 : TypeId × Value → H) (base2 : Nat) (v2 : Value) (d2 : DataW H) (p2 : List MemPlace) (k2 : DataW.Trod enc2 Try.prog w 0 (fun _ => true) true 22 v2 d2 p2) (o2 : Value.okWide Try.prog w .any base2 22 v2) :
    Calls Try.prog 5 #[v, v2] w fun e w' => e = .returned (.bool true) ∧ Below w.heap.size w w' := by
  obtain ⟨a, n, cap, rfl⟩ := Go.WideShapes.okWide_slice Try.underlying22 o
  obtain ⟨l, hl⟩ := itms_of (opened leaves_items k).1
  obtain ⟨a2, n2, cap2, rfl⟩ := Go.WideShapes.okWide_slice Try.underlying22 o2
  obtain ⟨m, hm⟩ := itms_of (opened leaves_items k2).1
  clear k o k2 o2
  obtain ⟨a', cap', hv, hc1, hc2⟩ := hl.slice
  simp only [Value.slice.injEq] at hv
  obtain ⟨rfl, rfl, rfl⟩ := hv
  obtain ⟨a', cap', hv, hd1, hd2⟩ := hm.slice
  simp only [Value.slice.injEq] at hv
  obtain ⟨rfl, rfl, rfl⟩ := hv
  unfold maxLen at hc2 hd2
  by_cases hbig : 200 < l.length
  · have hbig' : (200 : Int) < (l.length : Int) := by omega
    go_enter Try.func5, Try.ntmps5
    go_wp2_with (go_at_call 13; refine (lives06 _).mono ?_; rintro e W' ⟨rfl, hb⟩)
    go_ret
    exact ⟨rfl, hb⟩
  · have hbig' : (l.length : Int) ≤ 200 := by omega
    by_cases hbig2 : 40 < m.length
    · have hbig2' : (40 : Int) < (m.length : Int) := by omega
      go_enter Try.func5, Try.ntmps5
      go_wp2_with (go_at_call 13; refine (lives06 _).mono ?_; rintro e W' ⟨rfl, hb⟩)
      go_ret
      exact ⟨rfl, hb⟩
    · have hbig2' : (m.length : Int) ≤ 40 := by omega
      go_enter Try.func5, Try.ntmps5
      go_wp2_with fail
      refine (new_arena w.heap.size _ (Nat.le_refl _)).mono ?_
      rintro e w1 ⟨ba, SA, rfl, hA, hB, -⟩
      go_wp2_with fail
      refine (new_arena w.heap.size _ hB.size).mono ?_
      rintro e w2 ⟨bb, SB, rfl, hA2, hB2, hS2⟩
      have hT : TwoArenas w2 w.heap.size ba bb [] [] SA SB := ⟨hA.below hB2, hA2, fun k h1 h2 => by have := (hA.fp k h1).2; have := hS2 k h2; omega⟩
      replace hB := hB.trans (hB2.mono hB.size)
      clear hA hA2 hB2 hS2
      go_wp2_with fail
      go_loopw [7] (fun i wr => ∃ (k : Nat) (SA SB : Nat → Prop), k ≤ l.length ∧ i = .int .i64 k ∧ Below w.heap.size w wr ∧ TwoArenas wr w.heap.size ba bb (l.take k) (m.take k) SA SB) (fun i _ => l.length - (intOf i).toNat)
      case atStart => exact ⟨0, SA, SB, by omega, rfl, hB, by simpa using hT⟩
      case round =>
        obtain ⟨k, SA, SB, hk, rfl, hB, hT⟩ := hrel
        by_cases hlt : k < l.length
        · obtain ⟨g, off, x, rfl, hx, q0, q1, q2, q3, q4, q5⟩ := hl.cell k hlt
          have hg : g < w.heap.size := World.block_lt_of_cell? _ _ q0
          replace q0 := (hB.cell (p := ⟨g, _, none⟩) hg).trans q0
          replace q1 := (hB.cell (p := ⟨g, _, none⟩) hg).trans q1
          replace q2 := (hB.cell (p := ⟨g, _, none⟩) hg).trans q2
          replace q3 := (hB.cell (p := ⟨g, _, none⟩) hg).trans q3
          replace q4 := (hB.cell (p := ⟨g, _, none⟩) hg).trans q4
          replace q5 := (hB.cell (p := ⟨g, _, none⟩) hg).trans q5
          have hA' := add_len x k _ _ _ _ _ hT.a hB.size (by simp; omega) (by omega)
          have HX := Lib.hid hx
          clear hx
          have d1 : (k : Int) < (l.length : Int) := by omega
          by_cases hlm : k < m.length
          · obtain ⟨g2, off2, y, rfl, hy, r0, r1, r2, r3, r4, r5⟩ := hm.cell k hlm
            have hg2 : g2 < w.heap.size := World.block_lt_of_cell? _ _ r0
            have HY := Lib.hid hy
            clear hy
            have d2 : (k : Int) < (m.length : Int) := by omega
            go_wp2_with fail
            refine hA'.mono ?_
            rintro e w3 ⟨rfl, S2, hA2, hK, hS2⟩
            replace hB := keeps_below hK hB hB.size (fun j hj => (hT.a.fp j hj).1)
            replace hT := hT.addA hA2 hK hS2
            clear q0 q1 q2 q3 q4 q5 hA2 hK hS2 hA'
            replace r0 := (hB.cell (p := ⟨g2, _, none⟩) hg2).trans r0
            replace r1 := (hB.cell (p := ⟨g2, _, none⟩) hg2).trans r1
            replace r2 := (hB.cell (p := ⟨g2, _, none⟩) hg2).trans r2
            replace r3 := (hB.cell (p := ⟨g2, _, none⟩) hg2).trans r3
            replace r4 := (hB.cell (p := ⟨g2, _, none⟩) hg2).trans r4
            replace r5 := (hB.cell (p := ⟨g2, _, none⟩) hg2).trans r5
            have hA' := add_len y k _ _ _ _ _ hT.b hB.size (by simp; omega) (by omega)
            go_wp2_with fail
            refine hA'.mono ?_
            rintro e w4 ⟨rfl, S3, hA2, hK, hS2⟩
            replace hB := keeps_below hK hB hB.size (fun j hj => (hT.b.fp j hj).1)
            replace hT := hT.addB hA2 hK hS2
            clear r0 r1 r2 r3 r4 r5 hA2 hK hS2 hA'
            go_wp2
            go_roundw
            case rel => exact ⟨k + 1, S2, S3, by omega, by go_num, hB, by rw [take_next _ _ _ HX.out, take_next _ _ _ HY.out]; exact hT⟩
            case measure => simp [intOf]; omega
          · have d2 : (m.length : Int) ≤ (k : Int) := by omega
            go_wp2_with fail
            refine hA'.mono ?_
            rintro e w3 ⟨rfl, S2, hA2, hK, hS2⟩
            replace hB := keeps_below hK hB hB.size (fun j hj => (hT.a.fp j hj).1)
            replace hT := hT.addA hA2 hK hS2
            clear q0 q1 q2 q3 q4 q5 hA2 hK hS2 hA'
            go_wp2
            go_roundw
            case rel => exact ⟨k + 1, S2, SB, by omega, by go_num, hB, by rw [take_next _ _ _ HX.out, take_stay m k (by omega)]; exact hT⟩
            case measure => simp [intOf]; omega
        · obtain rfl : k = l.length := by omega
          rw [List.take_length] at hT
          have hlm : (m.take l.length).length = min l.length m.length := by simp
          have hmi : ∀ i, i < l.length → i < m.length → (m.take l.length)[i]? = m[i]? := fun i h1 h2 => by rw [List.getElem?_take, if_pos h1]
          have HL := Lib.hid hlm
          have HMI := Lib.hid hmi
          clear hlm hmi
          go_wp2_with fail
          go_loopw [12] (fun i wr => ∃ (k : Nat), k ≤ l.length ∧ i = .int .i64 k ∧ Below w.heap.size w wr ∧ TwoArenas wr w.heap.size ba bb l (m.take l.length) SA SB) (fun i _ => l.length - (intOf i).toNat)
          case atStart => exact ⟨0, by omega, rfl, hB, hT⟩
          case round =>
            clear hB hT
            obtain ⟨wo, rfl⟩ : ∃ wo : World, wo = wr := ⟨_, rfl⟩
            obtain ⟨k, hk, rfl, hB, hT⟩ := hrel
            by_cases hlt : k < l.length
            · obtain ⟨g, off, x, rfl, hx, q0, q1, q2, q3, q4, q5⟩ := hl.cell k hlt
              have hg : g < w.heap.size := World.block_lt_of_cell? _ _ q0
              have hI := at_in_i _ _ _ _ ((k : Int) + 1) x _ hT.a (by omega) (by omega) (by rw [show ((k : Int) + 1 - 1).toNat = k by omega]; exact hx)
              have d1 : (k : Int) < (l.length : Int) := by omega
              have d3 : (0 : Int) ≤ (k : Int) := by omega
              clear hx
              go_wp2_with fail
              refine hI.mono ?_
              rintro e w3 ⟨rfl, h1⟩
              replace hT := hT.below h1
              replace hB := hB.trans (h1.mono hB.size)
              clear h1 hI
              have hg' : g < w3.heap.size := Nat.lt_of_lt_of_le hg hB.size
              replace q0 := (hB.cell (p := ⟨g, _, none⟩) hg).trans q0
              replace q1 := (hB.cell (p := ⟨g, _, none⟩) hg).trans q1
              replace q2 := (hB.cell (p := ⟨g, _, none⟩) hg).trans q2
              replace q3 := (hB.cell (p := ⟨g, _, none⟩) hg).trans q3
              replace q4 := (hB.cell (p := ⟨g, _, none⟩) hg).trans q4
              replace q5 := (hB.cell (p := ⟨g, _, none⟩) hg).trans q5
              go_wp2
              go_quiet (fail)
              go_wp2
              go_roundw
              case rel => exact ⟨k + 1, by omega, by go_num, (hB.alloc hB.size _).trans ((below_drewN _ _).mono (by simp; have := hB.size; omega)), (hT.below ((Below.refl _ _).alloc (Nat.le_refl _) _)).below (below_drewN _ _)⟩
              case measure => simp [intOf]; omega
            · obtain rfl : k = l.length := by omega
              go_wp2_with fail
              go_loopw [15] (fun i wr => ∃ (k : Nat), k ≤ l.length ∧ i = .int .i64 k ∧ Below w.heap.size w wr ∧ TwoArenas wr w.heap.size ba bb l (m.take l.length) SA SB) (fun i _ => l.length - (intOf i).toNat)
              case atStart => exact ⟨0, by omega, rfl, hB, hT⟩
              case round =>
                clear hB hT
                obtain ⟨wo, rfl⟩ : ∃ wo : World, wo = wr := ⟨_, rfl⟩
                obtain ⟨k, hk, rfl, hB, hT⟩ := hrel
                by_cases hboth : k < m.length ∧ k < l.length
                · obtain ⟨g, off, x, rfl, hx, q0, q1, q2, q3, q4, q5⟩ := hm.cell k hboth.1
                  have hg : g < w.heap.size := World.block_lt_of_cell? _ _ q0
                  have hI := at_in_i _ _ _ _ ((k : Int) + 1) x _ hT.b (by rw [HL.out]; omega) (by omega) (by rw [show ((k : Int) + 1 - 1).toNat = k by omega, HMI.out k hboth.2 hboth.1]; exact hx)
                  have d1 : (k : Int) < (m.length : Int) := by omega
                  have d2 : (k : Int) < (l.length : Int) := by omega
                  have d3 : (0 : Int) ≤ (k : Int) := by omega
                  have d4 : decide ((k : Int) < (m.length : Int)) = true := by simp; omega
                  have d5 : decide (k < m.length) = true := by simp; omega
                  clear hx
                  go_wp2_with fail
                  refine hI.mono ?_
                  rintro e w3 ⟨rfl, h1⟩
                  replace hT := hT.below h1
                  replace hB := hB.trans (h1.mono hB.size)
                  clear h1 hI
                  have hg' : g < w3.heap.size := Nat.lt_of_lt_of_le hg hB.size
                  replace q0 := (hB.cell (p := ⟨g, _, none⟩) hg).trans q0
                  replace q1 := (hB.cell (p := ⟨g, _, none⟩) hg).trans q1
                  replace q2 := (hB.cell (p := ⟨g, _, none⟩) hg).trans q2
                  replace q3 := (hB.cell (p := ⟨g, _, none⟩) hg).trans q3
                  replace q4 := (hB.cell (p := ⟨g, _, none⟩) hg).trans q4
                  replace q5 := (hB.cell (p := ⟨g, _, none⟩) hg).trans q5
                  go_wp2
                  go_quiet (fail)
                  go_wp2
                  go_roundw
                  case rel => exact ⟨k + 1, by omega, by go_num, (hB.alloc hB.size _).trans ((below_drewN _ _).mono (by simp; have := hB.size; omega)), (hT.below ((Below.refl _ _).alloc (Nat.le_refl _) _)).below (below_drewN _ _)⟩
                  case measure => simp [intOf]; omega
                · have hca := count_arena _ _ _ _ _ hT.a
                  have hcb := count_arena _ _ _ _ _ hT.b
                  rw [HL.out] at hcb
                  have e1 : (((min l.length m.length : Nat) : Int) == min (l.length : Int) (m.length : Int)) = true := by simp; omega
                  have d6 : (l.length : Int) ≤ (k : Int) ∨ (m.length : Int) ≤ (k : Int) := by omega
                  by_cases d7 : k < m.length
                  · have d8 : (l.length : Int) ≤ (k : Int) := by omega
                    have d4 : decide ((k : Int) < (m.length : Int)) = true := by simp; omega
                    have d5 : decide (k < m.length) = true := by simp; omega
                    clear d6
                    go_wp2_with fail
                    refine hca.mono ?_
                    rintro e W' ⟨rfl, rfl⟩
                    go_wp2_with fail
                    refine hcb.mono ?_
                    rintro e W' ⟨rfl, rfl⟩
                    go_wp2_with (go_at_call 13; refine (lives06 _).mono ?_; rintro e W' ⟨rfl, hb⟩)
                    go_ret
                    exact ⟨rfl, hB.trans (hb.mono hB.size)⟩
                  · have d8 : (m.length : Int) ≤ (k : Int) := by omega
                    have d4 : decide ((k : Int) < (m.length : Int)) = false := by simp; omega
                    have d5 : decide (k < m.length) = false := by simp; omega
                    clear d6
                    go_wp2_with fail
                    refine hca.mono ?_
                    rintro e W' ⟨rfl, rfl⟩
                    go_wp2_with fail
                    refine hcb.mono ?_
                    rintro e W' ⟨rfl, rfl⟩
                    go_wp2_with (go_at_call 13; refine (lives06 _).mono ?_; rintro e W' ⟨rfl, hb⟩)
                    all_goals (go_ret; exact ⟨rfl, hB.trans (hb.mono hB.size)⟩)
end Go.Proofs.Ytalehdaeekkfiaa
