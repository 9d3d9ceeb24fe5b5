/-
  Texts of this prover, merged: OwnRow, Grown, Begin, First, Tickets, Tag, Puts, PutsDo, PutsAll, PutsLives, PutsEx, Spots, BesideLaw, Beside.
-/
import Derived.Test.YthehdcpjlddbpaaGreatLib
import Derived.Test.YthehdcpjlddbpaaGreatFrame
import Derived.Test.YthehdcpjlddbpaaGreatBegin0
import Derived.Test.YthehdcpjlddbpaaGreatTagPure
import Derived.Test.YthehdcpjlddbpaaGreatAddr
import Derived.Test.YthehdcpjlddbpaaGreatSegs
import Derived.Test.YthehdcpjlddbpaaGreatPlacesMay
import Derived.Deep.AppendLies
import Derived.Deep.DeepCutAuto
import Derived.Deep.CutBlock
import Derived.Laws.EntriesVeiled
import Derived.Deep.QuietTactic
import Derived.BigQuiet
import Derived.Maps.RangeWalk
/-
  Rows that the call made.
-/
namespace Go.Proofs.YthehdcpjlddbpaaGreat
open Go.RowKit
set_option linter.unusedVariables false

/-- A row of pointers that the call made. -/
theorem own_lit (w : World) (base e : Nat) (xs : List Value) (hb : base ≤ w.heap.size) (hn : xs.length ≤ maxLen) : (w.alloc (.cells xs.toArray e)).ownsRow base e 1 (.slice (some ⟨w.heap.size, 0, none⟩) xs.length xs.length) xs.length xs :=
  ⟨by simp, .inr ⟨_, _, _, rfl, hb, heap_alloc_new w _, Nat.le_refl _, hn, by simp, by simp⟩⟩
theorem own_at {w : World} {base e n : Nat} {v : Value} {xs : List Value} (h : w.ownsRow base e 1 v n xs) (i : Nat) (hi : i < n) : ∃ g cap x, v = .slice (some ⟨g, 0, none⟩) n cap ∧ xs[i]? = some x ∧ w.cell? ⟨g, i, none⟩ = some x ∧ base ≤ g := by
  obtain ⟨h1, ⟨rfl, h0⟩ | ⟨g, cap, cur, rfl, hb, hg, hn, hm, hs, ht⟩⟩ := h
  · omega
  · have hx : i < xs.length := by omega
    refine ⟨g, cap, xs[i], rfl, List.getElem?_eq_getElem hx, ?_, hb⟩
    have e1 : xs[i]? = (cur.toList.take (n * 1))[i]? := by rw [ht]
    rw [List.getElem?_take, if_pos (by omega), List.getElem?_eq_getElem hx] at e1
    unfold World.cell?; simp only; rw [hg]
    simpa using e1.symm
end Go.Proofs.YthehdcpjlddbpaaGreat

/-
  A row that has grown, in a frame by types.
-/
namespace Go.Proofs.YthehdcpjlddbpaaGreat
open Go.RowKit
set_option linter.unusedVariables false

theorem own_sl2 {w : World} {base e size n : Nat} {v : Value} {xs : List Value} (h : w.ownsRow base e size v n xs) : ∃ a cap, v = .slice a n cap := by
  obtain ⟨-, ⟨rfl, rfl⟩ | ⟨g, cap, cur, rfl, -⟩⟩ := h
  · exact ⟨none, 0, rfl⟩
  · exact ⟨_, cap, rfl⟩
theorem grown_ty {w w' : World} {base e size n : Nat} {v : Value} {xs : List Value} (h : w.ownsRow base e size v n xs) (hg : w.grownBy w' v.ownBlock) : Fr (fun T => T == e) false w w' := by
  obtain ⟨-, ⟨rfl, -⟩ | ⟨g, cap, cur, rfl, -, hb, -⟩⟩ := h
  · exact ⟨hg.size, fun k cs T fr hk _ => (hg.block k (Array.getElem?_eq_some_iff.1 hk).1 (fun c => by simp [Value.ownBlock] at c)).trans hk, fun _ k es cl hk => (hg.block k (Array.getElem?_eq_some_iff.1 hk).1 (fun c => by simp [Value.ownBlock] at c)).trans hk⟩
  · refine ⟨hg.size, fun k cs T fr hk hT => (hg.block k (Array.getElem?_eq_some_iff.1 hk).1 (fun c => ?_)).trans hk, fun _ k es cl hk => (hg.block k (Array.getElem?_eq_some_iff.1 hk).1 (fun c => ?_)).trans hk⟩
    · simp only [Value.ownBlock, Option.some.injEq] at c
      subst c
      have := hb.symm.trans hk; simp only [Option.some.injEq, Obj.cells.injEq] at this
      rw [this.2.1] at hT; simp at hT
    · simp only [Value.ownBlock, Option.some.injEq] at c
      subst c
      have := hb.symm.trans hk; cases this
theorem grown_below {w0 w w' : World} {B : Nat} {base e size n : Nat} {v : Value} {xs : List Value} (h : w.ownsRow base e size v n xs) (hg : w.grownBy w' v.ownBlock) (hB : Below B w0 w) (hs : B ≤ w.heap.size) (hb : B ≤ base) : Below B w0 w' :=
  hB.grown hg hs fun k hk => by
    obtain ⟨-, ⟨rfl, -⟩ | ⟨g, cap, cur, rfl, hb2, -⟩⟩ := h
    · simp [Value.ownBlock] at hk
    · simp only [Value.ownBlock, Option.some.injEq] at hk; omega
theorem set_ty {w : World} {q T : Nat} {cs : Array Value} (h : w.heap[q]? = some (.cells cs T (0, 0))) (o : Nat) (v : Value) : Fr (fun X => X == T) false w (w.setCell ⟨q, o, none⟩ v) :=
  keeps_fr (setCell_keeps w q o v) _ _ fun k e => ⟨_, _, _, e ▸ h, by simp⟩
theorem set_below {w0 w : World} {B q : Nat} (hB : Below B w0 w) (hs : B ≤ w.heap.size) (hq : B ≤ q) (o : Nat) (v : Value) : Below B w0 (w.setCell ⟨q, o, none⟩ v) :=
  keeps_below (setCell_keeps w q o v) hB hs fun k e => e ▸ hq
theorem ty_or {K1 K2 : TypeId → Bool} {w w' w'' : World} (h1 : Fr K1 false w w') (h2 : Fr K2 false w' w'') : Fr (fun T => K1 T || K2 T) false w w'' :=
  (h1.mono (fun T h => by simp only [Bool.or_eq_false_iff] at h; exact h.1) id).trans (h2.mono (fun T h => by simp only [Bool.or_eq_false_iff] at h; exact h.2) id)
end Go.Proofs.YthehdcpjlddbpaaGreat

/-
  Begin of a pair, whatever stands ahead of all (written by genbegin2.py).
-/
namespace Go.Proofs.YthehdcpjlddbpaaGreat
open Go.RowKit
set_option linter.unusedVariables false

structure BxA (f : Fst) (w W : World) : Prop where
  hF : W.heap[w.heap.size]? = some (.cells f.cells 28 (0, 0))
  h2 : W.heap[w.heap.size + 1]? = some (.cells #[.pointer none, .pointer none] 37 (0, 0))
  h3 : W.heap[w.heap.size + 2]? = some (.cells #[.int .i64 f.conf.bits, .int .i64 f.conf.budget, .int .i64 f.conf.tries, .int .i64 f.conf.quantum, .int .i64 f.conf.way] 23 (0, 0))
  hB : Below w.heap.size w W

set_option maxRecDepth 100000 in
set_option maxHeartbeats 8000000 in
theorem begin_any (f : Fst) (w : World) (hin : FstIn w f) : Calls Tryz.prog 12 #[.agg #[.int .i64 f.c.bits, .int .i64 f.c.budget, .int .i64 f.c.tries, .int .i64 f.c.quantum, .int .i64 f.c.way, .bool f.gr, .slice f.ia f.its.length f.ic, .slice f.pa f.puts.length f.pc, .slice f.sa f.sts.length f.sc, .int .i64 f.ticks]] w (BeginPost f w) := by
  have hcok : f.conf.ok = true := by
    unfold Fst.conf; split
    · assumption
    · decide
  have hct : f.c.ok = true → f.conf = f.c := fun h => by unfold Fst.conf; rw [h]; rfl
  have hcn : f.c.ok = false → f.conf = conf10 := fun h => by unfold Fst.conf; rw [h]; rfl
  obtain ⟨hwb, hb1, hb12⟩ := tword_bits hcok
  have HIN := Lib.hid hin; have HOK := Lib.hid hcok; have HTW := Lib.hid hwb; have HCT := Lib.hid hct; have HCN := Lib.hid hcn
  clear hin hcok hwb hct hcn
  go_enter Tryz.func12, Tryz.ntmps12
  go_upto_region 2 with (fail)
  have hF : (((w.alloc (.cells f.cells 28)).alloc (.cells #[.pointer none, .pointer none] 37)).alloc (.cells #[.int .i64 f.c.bits, .int .i64 f.c.budget, .int .i64 f.c.tries, .int .i64 f.c.quantum, .int .i64 f.c.way] 23)).heap[w.heap.size]? = some (.cells f.cells 28 (0, 0)) := heap_alloc_old (heap_alloc_old (heap_alloc_new w _))
  have h2 : (((w.alloc (.cells f.cells 28)).alloc (.cells #[.pointer none, .pointer none] 37)).alloc (.cells #[.int .i64 f.c.bits, .int .i64 f.c.budget, .int .i64 f.c.tries, .int .i64 f.c.quantum, .int .i64 f.c.way] 23)).heap[w.heap.size + 1]? = some (.cells #[.pointer none, .pointer none] 37 (0, 0)) := heap_alloc_old (heap_alloc_at _ _ (by simp))
  have h3 : (((w.alloc (.cells f.cells 28)).alloc (.cells #[.pointer none, .pointer none] 37)).alloc (.cells #[.int .i64 f.c.bits, .int .i64 f.c.budget, .int .i64 f.c.tries, .int .i64 f.c.quantum, .int .i64 f.c.way] 23)).heap[w.heap.size + 1 + 1]? = some (.cells #[.int .i64 f.c.bits, .int .i64 f.c.budget, .int .i64 f.c.tries, .int .i64 f.c.quantum, .int .i64 f.c.way] 23 (0, 0)) := heap_alloc_at _ _ (by simp)
  have hB3 : Below w.heap.size w (((w.alloc (.cells f.cells 28)).alloc (.cells #[.pointer none, .pointer none] 37)).alloc (.cells #[.int .i64 f.c.bits, .int .i64 f.c.budget, .int .i64 f.c.tries, .int .i64 f.c.quantum, .int .i64 f.c.way] 23)) := (((Below.refl _ w).alloc (Nat.le_refl _) _).alloc (by simp) _).alloc (by simp; omega) _
  change Code.wp _ _ _ _ (((w.alloc (.cells f.cells 28)).alloc (.cells #[.pointer none, .pointer none] 37)).alloc (.cells #[.int .i64 f.c.bits, .int .i64 f.c.budget, .int .i64 f.c.tries, .int .i64 f.c.quantum, .int .i64 f.c.way] 23))
  generalize ((w.alloc (.cells f.cells 28)).alloc (.cells #[.pointer none, .pointer none] 37)).alloc (.cells #[.int .i64 f.c.bits, .int .i64 f.c.budget, .int .i64 f.c.tries, .int .i64 f.c.quantum, .int .i64 f.c.way] 23) = W3 at *
  have d0 := hcell h3 0; have d1 := hcell h3 1; have d2 := hcell h3 2; have d3 := hcell h3 3; have d4 := hcell h3 4
  have HF := Lib.hid hF; have H2 := Lib.hid h2; have H3 := Lib.hid h3; have HB3 := Lib.hid hB3
  clear hF h2 h3 hB3
  go_upto_if 14 with (first
    | (go_at_call 60; refine (rother_any f.c _).mono ?_; rintro e w4 ⟨rfl, b4⟩; have HB4 := Lib.hid b4; clear b4)
    | (go_at_call 59; refine (rmay_any f.c _).mono ?_; rintro e W4 ⟨rfl, b5⟩; have HB5 : Hid (Below W3.heap.size W3 W4) := HB4.out.trans (b5.mono HB4.out.size); clear b5 d0 d1 d2 d3 d4))
  go_cut [] (fun wx => BxA f w wx)
  case first =>
    have h34 := (HB5.out.block _ (Array.getElem?_eq_some_iff.1 H3.out).1).trans H3.out
    have hF0 := (HB5.out.block _ (Array.getElem?_eq_some_iff.1 HF.out).1).trans HF.out
    have h20 := (HB5.out.block _ (Array.getElem?_eq_some_iff.1 H2.out).1).trans H2.out
    have hB4 : Below w.heap.size w W4 := HB3.out.trans (HB5.out.mono HB3.out.size)
    cases hok : f.c.ok
    · have h3 := setCell_same (setCell_same (setCell_same (setCell_same (setCell_same h34 0 (.int .i64 2)) 1 (.int .i64 8)) 2 (.int .i64 3)) 3 (.int .i64 1)) 4 (.int .i64 16)
      have hk5 : Keeps (· = w.heap.size + 1 + 1) W4 (((((W4.setCell ⟨w.heap.size + 1 + 1, 0, none⟩ (.int .i64 2)).setCell ⟨w.heap.size + 1 + 1, 1, none⟩ (.int .i64 8)).setCell ⟨w.heap.size + 1 + 1, 2, none⟩ (.int .i64 3)).setCell ⟨w.heap.size + 1 + 1, 3, none⟩ (.int .i64 1)).setCell ⟨w.heap.size + 1 + 1, 4, none⟩ (.int .i64 16)) := ((((setCell_keeps _ _ _ _).again (setCell_keeps _ _ _ _)).again (setCell_keeps _ _ _ _)).again (setCell_keeps _ _ _ _)).again (setCell_keeps _ _ _ _)
      have HREL : Hid (BxA f w (((((W4.setCell ⟨w.heap.size + 1 + 1, 0, none⟩ (.int .i64 2)).setCell ⟨w.heap.size + 1 + 1, 1, none⟩ (.int .i64 8)).setCell ⟨w.heap.size + 1 + 1, 2, none⟩ (.int .i64 3)).setCell ⟨w.heap.size + 1 + 1, 3, none⟩ (.int .i64 1)).setCell ⟨w.heap.size + 1 + 1, 4, none⟩ (.int .i64 16))) := by
        refine ⟨(hk5.block _ (Array.getElem?_eq_some_iff.1 hF0).1 (by omega)).trans hF0, (hk5.block _ (Array.getElem?_eq_some_iff.1 h20).1 (by omega)).trans h20, ?_, keeps_below hk5 hB4 hB4.size fun k e => by omega⟩
        rw [HCN.out hok]
        exact h3
      have d0 := hcell h34 0; have d1 := hcell h34 1; have d2 := hcell h34 2; have d3 := hcell h34 3; have d4 := hcell h34 4; have df := hfrz h34
      clear h34 hF0 h20 hB4 h3 hk5
      go_wp2_with fail
      go_meet
      case rel => exact HREL.out
    · have HREL : Hid (BxA f w W4) := ⟨hF0, h20, by rw [HCT.out hok]; exact h34, hB4⟩
      clear h34 hF0 h20 hB4
      go_wp2_with fail
      go_meet
      case rel => exact HREL.out
  case rest =>
  clear HF H2 H3 HB3 HB4 HB5 HCT HCN
  obtain ⟨hF, h2, h3, hB5⟩ := hcut
  have HBX0 : Hid (BxF f f.conf w.heap.size wc.heap.size (.pointer none) (.pointer none) (wc.alloc (.cells #[.pointer none, .pointer none] 37))) := ⟨heap_alloc_old hF, heap_alloc_old h2, heap_alloc_old h3, heap_alloc_new wc _⟩
  have HB6 : Hid (Below w.heap.size w (wc.alloc (.cells #[.pointer none, .pointer none] 37))) := hB5.alloc hB5.size _
  have hq4 : w.heap.size + 1 < wc.heap.size := (Array.getElem?_eq_some_iff.1 h2).1
  have HSZ := Lib.hid hB5.size
  clear hF h2 h3 hB5
  go_upto_region 5 with (fail)
  generalize wc.alloc (.cells #[.pointer none, .pointer none] 37) = W6 at *
  obtain ⟨q4, hq4e⟩ : ∃ q4, q4 = wc.heap.size := ⟨_, rfl⟩
  rw [← hq4e] at HBX0 hq4 HSZ
  simp only [← hq4e]
  clear hq4e
  have hb := HBX0.out
  have d0 := hcell hb.h3 0; have d1 := hcell hb.h3 1; have d2 := hcell hb.h3 2; have d3 := hcell hb.h3 3; have d4 := hcell hb.h3 4
  clear hb
  generalize hfc : f.conf = fc at *
  go_upto_region 6 with (first
    | (go_at_call 60; refine (rother_any fc _).mono ?_; rintro e w7 ⟨rfl, b7⟩; have HB7 := Lib.hid b7; clear b7 d0 d1 d2 d3 d4)
    | (go_at_call 61; refine (rnew10_any fc HOK.out w7).mono ?_; rintro e w8 ⟨rb, cr, rib, rnb, rfl, hR, bR⟩; have hbx8 := (HBX0.out.below HB7.out).below bR; have e0 := hcell hbx8.h4 1; have ef := hfrz hbx8.h4 1; have HR8 := Lib.hid (rd_of hR (HB6.out.trans (HB7.out.mono HB6.out.size)) bR); have HBX8 := Lib.hid hbx8; have HB8 : Hid (Below w.heap.size w w8) := (HB6.out.trans (HB7.out.mono HB6.out.size)).trans (bR.mono (Nat.le_trans HB6.out.size HB7.out.size)); clear hbx8 hR bR))
  have hf9 := setPair_fr HBX8.out.h4 1 (.pointer (some ⟨rb, 0, none⟩))
  have hB9 := below_set (o := 1) (v := .pointer (some ⟨rb, 0, none⟩)) HB8.out (HSZ.out)
  have hbx9 := HBX8.out.set (by omega) 1 (.pointer (some ⟨rb, 0, none⟩)) (.pointer none) (.pointer (some ⟨rb, 0, none⟩)) rfl
  have HR9 := Lib.hid (HR8.out.fr hf9 pairTy_r hB9)
  have HBX9 := Lib.hid hbx9; have HB9 := Lib.hid hB9
  clear hf9 hB9 hbx9 e0 ef HR8 HBX8 HB8
  generalize w8.setCell ⟨q4, 1, none⟩ (.pointer (some ⟨rb, 0, none⟩)) = W9 at *
  have hb := HBX9.out
  have d0 := hcell hb.h3 0; have d1 := hcell hb.h3 1; have d2 := hcell hb.h3 2; have d3 := hcell hb.h3 3; have d4 := hcell hb.h3 4
  clear hb
  go_upto_region 7 with (go_at_call 62; refine (wnew_ok fc HOK.out W9).mono ?_; rintro e w10 ⟨wb, cb, ib, nb, rfl, g1, g2, g3, g4, g5, g6, g7⟩; have hbx10 := HBX9.out.below g3.below; have e0 := hcell hbx10.h4 0; have ef := hfrz hbx10.h4 0; have HW10 := Lib.hid (ws_of HB9.out g1 g2 g3 g4 g5 g6 g7); have HR10 := Lib.hid (HR9.out.keep g3.below); have HBX10 := Lib.hid hbx10; clear hbx10 g1 g2 g3 g4 g5 g6 g7 d0 d1 d2 d3 d4)
  have hf11 := setPair_fr HBX10.out.h4 0 (.pointer (some ⟨wb, 0, none⟩))
  have hB11 := below_set (o := 0) (v := .pointer (some ⟨wb, 0, none⟩)) HW10.out.below (HSZ.out)
  have hbx11 := HBX10.out.set (by omega) 0 (.pointer (some ⟨wb, 0, none⟩)) (.pointer (some ⟨wb, 0, none⟩)) (.pointer (some ⟨rb, 0, none⟩)) rfl
  have htw : tword fc.bits 0 = fc.bits := HTW.out
  have hws := HW10.out.fr hf11 pairTy_w hB11
  rw [htw] at hws
  have hpr : Pr w (w10.setCell ⟨q4, 0, none⟩ (.pointer (some ⟨wb, 0, none⟩))) ⟨wb, cb, ib, nb⟩ ⟨rb, cr, rib, rnb⟩ (v0 fc) (CS.init [(2, fc.bits)]) ⟨rfold [(2, fc.bits)], 0, 0, 0, 0, 0⟩ := ⟨hws, HR10.out.fr hf11 pairTy_r hB11, init_one _ (by omega)⟩
  have hfar := init_far1 fc.bits
  have HPR := Lib.hid hpr; have HFAR := Lib.hid hfar; have HBX := Lib.hid hbx11
  clear hf11 hB11 hbx11 htw hws hpr hfar e0 ef HW10 HR10 HBX10 HBX9 HB9 HR9 HB7 HBX0 HB6
  generalize w10.setCell ⟨q4, 0, none⟩ (.pointer (some ⟨wb, 0, none⟩)) = W11 at *
  generalize hs1 : CS.init [(2, fc.bits)] = s1 at *
  generalize (⟨rfold [(2, fc.bits)], 0, 0, 0, 0, 0⟩ : RS) = x1 at *
  obtain ⟨B, hBe⟩ : ∃ B : WB, B = ⟨wb, cb, ib, nb⟩ := ⟨_, rfl⟩
  obtain ⟨R, hRe⟩ : ∃ R : WB, R = ⟨rb, cr, rib, rnb⟩ := ⟨_, rfl⟩
  rw [← hBe, ← hRe] at HPR
  have ewb : wb = B.wb := by rw [hBe]
  have erb : rb = R.wb := by rw [hRe]
  subst ewb erb
  clear hBe hRe
  have HS1 := Lib.hid hs1; have HFC := Lib.hid hfc
  clear hs1 hfc
  have c40 := hcell HBX.out.h4 0
  have cF5 : W11.cell? ⟨w.heap.size, 5, none⟩ = some (.bool f.gr) := hcell HBX.out.hF 5
  have c30 := hcell HBX.out.h3 0
  go_upto_region 9 with (fail)
  go_cut [0, 42] (fun _ s42 wx => s42 = .bool (f.gr && decide (fc.bits < 12)) ∧ wx = W11)
  case first =>
    cases hg : f.gr
    · rw [hg] at cF5
      go_wp2_with fail
      go_meet
      case rel => exact ⟨by rw [hg]; rfl, rfl⟩
    · rw [hg] at cF5
      go_wp2_with fail
      go_meet
      case rel => exact ⟨by rw [hg]; simp, rfl⟩
  case rest =>
  obtain ⟨rfl, hwc⟩ := hcut
  subst hwc
  clear cF5 c30 c40
  have htk0 : ({ v0 fc with its := List.take 0 f.its } : WV) = v0 fc := rfl
  go_upto_if 42 with (fail)
  go_cut [] (fun wx => ∃ s2 x2, Pr w wx B R (v0 fc) s2 x2 ∧ BxF f fc w.heap.size q4 (.pointer (some ⟨B.wb, 0, none⟩)) (.pointer (some ⟨R.wb, 0, none⟩)) wx ∧ Far s2 x2 2 ∧ (f.gr = false → s2 = s1))
  case first =>
    cases hgb : (f.gr && decide (fc.bits < 12))
    · have HREL : Hid (∃ s2 x2, Pr w wc B R (v0 fc) s2 x2 ∧ BxF f fc w.heap.size q4 (.pointer (some ⟨B.wb, 0, none⟩)) (.pointer (some ⟨R.wb, 0, none⟩)) wc ∧ Far s2 x2 2 ∧ (f.gr = false → s2 = s1)) := ⟨s1, x1, HPR.out, HBX.out, ⟨by have := HFAR.out.1; omega, by have := HFAR.out.2.1; omega, by have := HFAR.out.2.2; omega⟩, fun _ => rfl⟩
      go_wp2_with fail
      go_meet
      case rel => exact HREL.out
    · have hgr := hgb
      simp only [Bool.and_eq_true, decide_eq_true_eq] at hgr
      obtain ⟨hg1, hg2⟩ := hgr
      have e1 : IntKind.u64.wrap (fc.bits + 256 * (fc.bits + 1)) = fc.bits + 256 * (fc.bits + 1) := by rw [IntKind.wrap_u64]; omega
      have hps := pstore_any HPR.out 1 HFAR.out (by decide) 2 (fc.bits + 256 * (fc.bits + 1)) (by decide) (u64_small _ (by omega))
      have HF2 := Lib.hid (HFAR.out.acc HPR.out.al 2 2 (fc.bits + 256 * (fc.bits + 1)))
      have c40 := hcell HBX.out.h4 0
      have c41 := hcell HBX.out.h4 1
      have c30 := hcell HBX.out.h3 0
      have HG1 := Lib.hid hg1
      clear hg1
      go_wp2_with (go_at_call 41; refine hps.mono ?_; rintro e W12 ⟨rfl, h12, f12⟩; have HPR2 := Lib.hid h12; have HBX2 := Lib.hid (HBX.out.fr f12 rfl rfl rfl); clear h12 f12 hps c40 c30 c41)
      go_meet
      case rel => exact ⟨_, _, HPR2.out, HBX2.out, HF2.out, fun h => by have := HG1.out; rw [h] at this; cases this⟩
  case rest =>
  clear HPR HBX HFAR htk0
  obtain ⟨s2, x2, hpr, hbx, hfar2, hs2⟩ := hcut
  have HPR2 := Lib.hid hpr; have HBX2 := Lib.hid hbx; have HFAR2 := Lib.hid hfar2; have HS2 := Lib.hid hs2
  clear hpr hbx hfar2 hs2
  go_upto_block 0 with (fail)
  go_cut [] (fun wx => Pr w wx B R { v0 fc with its := f.its } s2 x2 ∧ BxF f fc w.heap.size q4 (.pointer (some ⟨B.wb, 0, none⟩)) (.pointer (some ⟨R.wb, 0, none⟩)) wx)
  case first =>
    have cF2 := hcell HBX2.out.hF 6
    go_wp2_with fail
    clear cF2
    -- the records
    go_loopw [5] (fun i wr => ∃ k : Nat, k ≤ f.its.length ∧ i = .int .i64 k ∧ Pr w wr B R { v0 fc with its := f.its.take k } s2 x2 ∧ BxF f fc w.heap.size q4 (.pointer (some ⟨B.wb, 0, none⟩)) (.pointer (some ⟨R.wb, 0, none⟩)) wr) (fun i _ => f.its.length - (intOf i).toNat)
    case atStart => exact ⟨0, by omega, rfl, HPR2.out, HBX2.out⟩
    case round =>
      clear HPR2 HBX2
      obtain ⟨k, hk, rfl, hpr, hbx⟩ := hrel
      have hbw := hpr.ws.below
      have hni := HIN.out.ni
      by_cases hlt : k < f.its.length
      · obtain ⟨b, off, y, hia, hy, q0, q1, q2, q3, q4', q5⟩ := Itms.cell HIN.out.its k hlt
        have hg : b < w.heap.size := World.block_lt_of_cell? _ _ q0
        have q0 := (hbw.cell (p := ⟨b, _, none⟩) hg).trans q0
        have q1 := (hbw.cell (p := ⟨b, _, none⟩) hg).trans q1
        have q2 := (hbw.cell (p := ⟨b, _, none⟩) hg).trans q2
        have q3 := (hbw.cell (p := ⟨b, _, none⟩) hg).trans q3
        have q4' := (hbw.cell (p := ⟨b, _, none⟩) hg).trans q4'
        have q5 := (hbw.cell (p := ⟨b, _, none⟩) hg).trans q5
        have c6 : wr.cell? ⟨w.heap.size, 6, none⟩ = some (.slice f.ia f.its.length f.ic) := hcell hbx.hF 6
        rw [hia] at c6
        have x0 := fun st : ExtW wr => st.cell (hcell hbx.h4 0)
        have x1 := fun st : ExtW wr => st.cell (hcell hbx.h4 1)
        have x2' := fun st : ExtW wr => st.cell c6
        have z0 := fun st : ExtW wr => st.cell q0
        have z1 := fun st : ExtW wr => st.cell q1
        have z2 := fun st : ExtW wr => st.cell q2
        have z3 := fun st : ExtW wr => st.cell q3
        have z4 := fun st : ExtW wr => st.cell q4'
        have z5 := fun st : ExtW wr => st.cell q5
        have hst : ∀ W, Below wr.heap.size wr W → Calls Tryz.prog 63 #[.agg #[.pointer (some ⟨B.wb, 0, none⟩), .pointer (some ⟨R.wb, 0, none⟩)], .agg #[.string (y).key, .string (y).val, .int .u32 (y).flags, .int .u64 (y).id, .int .i64 (y).dies, .int .i64 (y).gen]] W fun e w' => e = .returned (.tuple #[]) ∧ Pr w w' B R { v0 fc with its := f.its.take k ++ [y] } s2 x2 ∧ Fr wrTy true W w' := fun W hW => pitem_any (hpr.keep hW) y (by simp; omega)
        have hty : f.its.take (k + 1) = f.its.take k ++ [y] := by rw [List.take_add_one, hy]; rfl
        have hlt' : (k : Int) < f.its.length := by omega
        have HST := Lib.hid hst; have HBX := Lib.hid hbx; have HTY := Lib.hid hty
        clear hpr hbx hbw q0 q1 q2 q3 q4' q5 hst hty hy hia hg
        go_wp2
        refine wp_region_segs [6] (by kernel_rfl) (by kernel_rfl) (by kernel_rfl) ?_
        simp only [Segs, List.take_succ_cons, List.take_zero, List.drop_succ_cons, List.drop_zero]
        repeat (go_big_quiet_step (fail))
        refine wpQuiet_nil ?_
        rintro W ⟨⟨W2, hW⟩, rfl⟩
        clear x0 x1 x2' z0 z1 z2 z3 z4 z5 c6
        refine seg_call rfl (by kernel_rfl) 63 #[.agg #[.pointer (some ⟨B.wb, 0, none⟩), .pointer (some ⟨R.wb, 0, none⟩)], .agg #[.string (y).key, .string (y).val, .int .u32 (y).flags, .int .u64 (y).id, .int .i64 (y).dies, .int .i64 (y).gen]] (by kernel_rfl) ?_
        refine (HST.out _ hW).mono ?_
        rintro e w12 ⟨rfl, h12, f12⟩
        refine ⟨_, rfl, ?_⟩
        refine wpQuiet_nil ?_
        rintro W3' ⟨⟨W4', hW3⟩, rfl⟩
        have HN := Lib.hid (And.intro (h12.keep hW3) (((HBX.out.below hW).fr f12 rfl rfl rfl).below hW3))
        clear hW h12 f12 hW3
        go_wp2
        go_roundw
        case rel => exact ⟨k + 1, by omega, by go_num, by rw [HTY.out]; exact HN.out.1, HN.out.2⟩
        case measure => simp [intOf]; omega
      · obtain rfl : k = f.its.length := by omega
        rw [List.take_length] at hpr
        have HREL := Lib.hid (And.intro hpr hbx)
        have c6 : wr.cell? ⟨w.heap.size, 6, none⟩ = some (.slice f.ia f.its.length f.ic) := hcell hbx.hF 6
        clear hpr hbx hbw hlt hk
        go_wp2_with fail
        go_meet
        case rel => exact HREL.out
  case rest =>
      obtain ⟨hpr, hbx⟩ := hcut
      have HPR3 := Lib.hid hpr; have HBX3 := Lib.hid hbx
      clear HPR2 HBX2
      have c6 : wc.cell? ⟨w.heap.size, 6, none⟩ = some (.slice f.ia f.its.length f.ic) := hcell hbx.hF 6
      clear hpr hbx
      go_upto_block 2 with (fail)
      go_cut [] (fun wx => ∃ s3 x3, Pr w wx B R { v0 fc with its := f.its } s3 x3 ∧ BxF f fc w.heap.size q4 (.pointer (some ⟨B.wb, 0, none⟩)) (.pointer (some ⟨R.wb, 0, none⟩)) wx ∧ Far s3 x3 122 ∧ (f.puts = [] → s3 = s2))
      case first =>
        go_wp2_with fail
        -- the puts
        go_loopw [6] (fun i wr => ∃ (k : Nat) (s : CS) (x : RS), k ≤ f.puts.length ∧ i = .int .i64 k ∧ Pr w wr B R { v0 fc with its := f.its } s x ∧ BxF f fc w.heap.size q4 (.pointer (some ⟨B.wb, 0, none⟩)) (.pointer (some ⟨R.wb, 0, none⟩)) wr ∧ Far s x (2 + 2 * k) ∧ (k = 0 → s = s2)) (fun i _ => f.puts.length - (intOf i).toNat)
        case atStart => exact ⟨0, _, _, by omega, rfl, HPR3.out, HBX3.out, HFAR2.out, fun _ => rfl⟩
        case round =>
          clear HPR3 HBX3
          obtain ⟨k, s, x, hk, rfl, hpr, hbx, hfar, hks⟩ := hrel
          have hbw := hpr.ws.below
          have hnp := HIN.out.np
          have c6 : wr.cell? ⟨w.heap.size, 6, none⟩ = some (.slice f.ia f.its.length f.ic) := hcell hbx.hF 6
          have c7 : wr.cell? ⟨w.heap.size, 7, none⟩ = some (.slice f.pa f.puts.length f.pc) := hcell hbx.hF 7
          by_cases hlt : k < f.puts.length ∧ 0 < f.its.length
          · obtain ⟨hlt, hi0⟩ := hlt
            obtain ⟨b, off, px, py, pz, hpa, hbd, q0, q1, q2⟩ := HIN.out.puts.at k hlt
            have hg : b < w.heap.size := World.block_lt_of_cell? _ _ q0
            have q0 := (hbw.cell (p := ⟨b, _, none⟩) hg).trans q0
            have q1 := (hbw.cell (p := ⟨b, _, none⟩) hg).trans q1
            have q2 := (hbw.cell (p := ⟨b, _, none⟩) hg).trans q2
            rw [hpa] at c7
            have x0 := fun st : ExtW wr => st.cell (hcell hbx.h4 0)
            have x1 := fun st : ExtW wr => st.cell (hcell hbx.h4 1)
            have x2' := fun st : ExtW wr => st.cell c6
            have x3 := fun st : ExtW wr => st.cell c7
            have z0 := fun st : ExtW wr => st.cell q0
            have z1 := fun st : ExtW wr => st.cell q1
            have z2 := fun st : ExtW wr => st.cell q2
            have hst : ∀ W, Below wr.heap.size wr W → Calls Tryz.prog 64 #[.agg #[.pointer (some ⟨B.wb, 0, none⟩), .pointer (some ⟨R.wb, 0, none⟩)], .agg #[.int .u8 px, .int .u8 py, .int .u8 pz], .int .i64 f.its.length] W (PutPost w W B R { v0 fc with its := f.its } (2 + 2 * k)) := fun W hW => pput_any (hpr.keep hW) (2 + 2 * k) hfar (by omega) HIN.out.key (by have := HIN.out.ni; simp only; omega) f.its.length ⟨by omega, by have := HIN.out.ni; omega⟩ px py pz hbd.1 hbd.2.1 hbd.2.2
            have hlt' : (k : Int) < f.puts.length := by omega
            have hi0' : (0 : Int) < f.its.length := by omega
            have HST := Lib.hid hst; have HBX := Lib.hid hbx
            clear hpr hbx hbw q0 q1 q2 hst hpa hg hbd hfar hks
            go_wp2
            refine wp_region_segs [9] (by kernel_rfl) (by kernel_rfl) (by kernel_rfl) ?_
            simp only [Segs, List.take_succ_cons, List.take_zero, List.drop_succ_cons, List.drop_zero]
            repeat (go_big_quiet_step (fail))
            refine wpQuiet_nil ?_
            rintro W ⟨⟨W2, hW⟩, rfl⟩
            clear x0 x1 x2' x3 z0 z1 z2 c6 c7
            refine seg_call rfl (by kernel_rfl) 64 #[.agg #[.pointer (some ⟨B.wb, 0, none⟩), .pointer (some ⟨R.wb, 0, none⟩)], .agg #[.int .u8 px, .int .u8 py, .int .u8 pz], .int .i64 f.its.length] (by kernel_rfl) ?_
            refine (HST.out _ hW).mono ?_
            rintro e w12 ⟨rfl, s', x', h12, hfar', f12⟩
            refine ⟨_, rfl, ?_⟩
            refine wpQuiet_nil ?_
            rintro W3' ⟨⟨W4', hW3⟩, rfl⟩
            have HN := Lib.hid (And.intro (h12.keep hW3) (((HBX.out.below hW).fr f12 rfl rfl rfl).below hW3))
            have HFN : Hid (Far s' x' (2 + 2 * (k + 1))) := hfar'
            clear hW h12 f12 hW3 hfar'
            go_wp2
            go_roundw
            case rel => exact ⟨k + 1, s', x', by omega, by go_num, HN.out.1, HN.out.2, HFN.out, fun h => by omega⟩
            case measure => simp [intOf]; omega
          · have HREL : Hid (∃ s3 x3, Pr w wr B R { v0 fc with its := f.its } s3 x3 ∧ BxF f fc w.heap.size q4 (.pointer (some ⟨B.wb, 0, none⟩)) (.pointer (some ⟨R.wb, 0, none⟩)) wr ∧ Far s3 x3 122 ∧ (f.puts = [] → s3 = s2)) :=
              ⟨s, x, hpr, hbx, ⟨by have := hfar.1; omega, by have := hfar.2.1; omega, by have := hfar.2.2; omega⟩, fun h => hks (by rw [h] at hk; simpa using hk)⟩
            have hor : ¬ k < f.puts.length ∨ (k < f.puts.length ∧ ¬ 0 < f.its.length) := by omega
            clear hpr hbx hbw hfar hks hlt
            rcases hor with ho | ⟨ho1, ho2⟩
            · have ho' : (f.puts.length : Int) ≤ k := by omega
              go_wp2_with fail
              go_meet
              case rel => exact HREL.out
            · have ho1' : (k : Int) < f.puts.length := by omega
              have ho2' : (f.its.length : Int) ≤ 0 := by omega
              go_wp2_with fail
              go_meet
              case rel => exact HREL.out
      case rest =>
      clear HPR3 HBX3 c6
      obtain ⟨s, x, hpr, hbx, hfar, hks⟩ := hcut
      have HPR4 := Lib.hid hpr; have HBX4 := Lib.hid hbx; have HFAR4 := Lib.hid hfar; have HKS := Lib.hid hks
      clear hpr hbx hfar hks
      go_upto_block 4 with (fail)
      go_cut [] (fun wx => ∃ s4 x4, Pr w wx B R { v0 fc with its := f.its } s4 x4 ∧ BxF f fc w.heap.size q4 (.pointer (some ⟨B.wb, 0, none⟩)) (.pointer (some ⟨R.wb, 0, none⟩)) wx ∧ Far s4 x4 162 ∧ (f.ticks ≤ 0 → s4 = s))
      case first =>
        go_wp2_with fail
        go_loopw [7] (fun i wr => ∃ (k : Nat) (s' : CS) (x' : RS), k ≤ 40 ∧ i = .int .i64 k ∧ Pr w wr B R { v0 fc with its := f.its } s' x' ∧ BxF f fc w.heap.size q4 (.pointer (some ⟨B.wb, 0, none⟩)) (.pointer (some ⟨R.wb, 0, none⟩)) wr ∧ Far s' x' (122 + k) ∧ (k = 0 → s' = s) ∧ (0 < k → 0 < f.ticks)) (fun i _ => 40 - (intOf i).toNat)
        case atStart => exact ⟨0, _, _, by omega, rfl, HPR4.out, HBX4.out, HFAR4.out, fun _ => rfl, fun h => by omega⟩
        case round =>
          clear HPR4 HBX4
          obtain ⟨k2, s', x', hk2, rfl, hpr, hbx, hfar, hks, hkt⟩ := hrel
          have c9 : wr.cell? ⟨w.heap.size, 9, none⟩ = some (.int .i64 f.ticks) := hcell hbx.hF 9
          have c40 := hcell hbx.h4 0
          have c41 := hcell hbx.h4 1
          by_cases hlt2 : (k2 : Int) < f.ticks ∧ k2 < 40
          · obtain ⟨ht1, ht2⟩ := hlt2
            have ht2' : (k2 : Int) < 40 := by omega
            have htk := ptick_any hpr (122 + k2) hfar (by omega)
            have HBX := Lib.hid hbx
            have HF2 := Lib.hid (hfar.acc hpr.al 3 8 (eTick (s'.val 8)))
            clear hpr hbx hfar hks hkt
            go_wp2_with (go_at_call 65; refine htk.mono ?_; rintro e w12 ⟨rfl, h12, f12⟩; have HN := Lib.hid (And.intro h12 (HBX.out.fr f12 rfl rfl rfl)); clear h12 f12 htk c9 c40 c41)
            go_roundw
            case rel => exact ⟨k2 + 1, _, _, by omega, by go_num, HN.out.1, HN.out.2, HF2.out, fun h => by omega, fun _ => by omega⟩
            case measure => simp [intOf]; omega
          · have HREL : Hid (∃ s4 x4, Pr w wr B R { v0 fc with its := f.its } s4 x4 ∧ BxF f fc w.heap.size q4 (.pointer (some ⟨B.wb, 0, none⟩)) (.pointer (some ⟨R.wb, 0, none⟩)) wr ∧ Far s4 x4 162 ∧ (f.ticks ≤ 0 → s4 = s)) :=
              ⟨s', x', hpr, hbx, ⟨by have := hfar.1; omega, by have := hfar.2.1; omega, by have := hfar.2.2; omega⟩, fun h => hks (by by_cases c : k2 = 0; exact c; have := hkt (by omega); omega)⟩
            have hor : ¬ (k2 : Int) < f.ticks ∨ ((k2 : Int) < f.ticks ∧ ¬ k2 < 40) := by omega
            clear hpr hbx hfar hks hkt hlt2 c40 c41
            rcases hor with ho5 | ⟨ho5, ho6⟩
            · have ho5' : f.ticks ≤ (k2 : Int) := by omega
              go_wp2_with fail
              go_meet
              case rel => exact HREL.out
            · have ho6' : (40 : Int) ≤ (k2 : Int) := by omega
              go_wp2_with fail
              go_meet
              case rel => exact HREL.out
      case rest =>
      clear HPR4 HBX4
      obtain ⟨s', x', hpr, hbx, hfar, hks2⟩ := hcut
      have HPR5 := Lib.hid hpr; have HBX5 := Lib.hid hbx; have HFAR5 := Lib.hid hfar; have HKS2 := Lib.hid hks2
      clear hpr hbx hfar hks2
      go_upto_block 6 with (fail)
      go_cut [] (fun wx => ∃ s3 x3, Pr w wx B R { v0 fc with its := f.its } s3 x3 ∧ BxF f fc w.heap.size q4 (.pointer (some ⟨B.wb, 0, none⟩)) (.pointer (some ⟨R.wb, 0, none⟩)) wx ∧ Far s3 x3 300 ∧ (f.sts = [] → s3 = s'))
      case first =>
        have c8 : wc.cell? ⟨w.heap.size, 8, none⟩ = some (.slice f.sa f.sts.length f.sc) := hcell HBX5.out.hF 8
        go_wp2_with fail
        clear c8
        go_loopw [8] (fun i wr => ∃ (k : Nat) (s3 : CS) (x3 : RS), k ≤ f.sts.length ∧ i = .int .i64 k ∧ Pr w wr B R { v0 fc with its := f.its } s3 x3 ∧ BxF f fc w.heap.size q4 (.pointer (some ⟨B.wb, 0, none⟩)) (.pointer (some ⟨R.wb, 0, none⟩)) wr ∧ Far s3 x3 (162 + k) ∧ (k = 0 → s3 = s')) (fun i _ => f.sts.length - (intOf i).toNat)
        case atStart => exact ⟨0, _, _, by omega, rfl, HPR5.out, HBX5.out, HFAR5.out, fun _ => rfl⟩
        case round =>
          clear HPR5 HBX5
          obtain ⟨k3, s3, x3, hk3, rfl, hpr, hbx, hfar, hks⟩ := hrel
          have hbw := hpr.ws.below
          have hns := HIN.out.ns
          have c8 : wr.cell? ⟨w.heap.size, 8, none⟩ = some (.slice f.sa f.sts.length f.sc) := hcell hbx.hF 8
          by_cases hlt3 : k3 < f.sts.length
          · obtain ⟨b, off, sx, sy, hsa, hsx, hswf, q0, q1⟩ := HIN.out.sts.at k3 hlt3
            have hg : b < w.heap.size := World.block_lt_of_cell? _ _ q0
            have q0 := (hbw.cell (p := ⟨b, _, none⟩) hg).trans q0
            have q1 := (hbw.cell (p := ⟨b, _, none⟩) hg).trans q1
            rw [hsa] at c8
            have x0 := fun st : ExtW wr => st.cell (hcell hbx.h4 0)
            have x1 := fun st : ExtW wr => st.cell (hcell hbx.h4 1)
            have x2' := fun st : ExtW wr => st.cell c8
            have z0 := fun st : ExtW wr => st.cell q0
            have z1 := fun st : ExtW wr => st.cell q1
            have hst : ∀ W, Below wr.heap.size wr W → Calls Tryz.prog 41 #[.agg #[.pointer (some ⟨B.wb, 0, none⟩), .pointer (some ⟨R.wb, 0, none⟩)], .agg #[.int .u64 sx, .int .u64 sy]] W fun e w' => e = .returned (.tuple #[]) ∧ Pr w w' B R { v0 fc with its := f.its } (s3.acc 2 sx sy) (x3.acc 2 sx sy) ∧ Fr wrTy true W w' := fun W hW => pstore_any (hpr.keep hW) (162 + k3) hfar (by omega) sx sy hswf.1 hswf.2
            have hlt3' : (k3 : Int) < f.sts.length := by omega
            have HST := Lib.hid hst; have HBX := Lib.hid hbx
            have HF3 := Lib.hid (hfar.acc hpr.al 2 sx sy)
            clear hpr hbx hbw q0 q1 hst hsa hg hfar hks hsx hswf
            go_wp2
            refine wp_region_segs [6] (by kernel_rfl) (by kernel_rfl) (by kernel_rfl) ?_
            simp only [Segs, List.take_succ_cons, List.take_zero, List.drop_succ_cons, List.drop_zero]
            repeat (go_big_quiet_step (fail))
            refine wpQuiet_nil ?_
            rintro W ⟨⟨W2, hW⟩, rfl⟩
            clear x0 x1 x2' z0 z1 c8
            refine seg_call rfl (by kernel_rfl) 41 #[.agg #[.pointer (some ⟨B.wb, 0, none⟩), .pointer (some ⟨R.wb, 0, none⟩)], .agg #[.int .u64 sx, .int .u64 sy]] (by kernel_rfl) ?_
            refine (HST.out _ hW).mono ?_
            rintro e w12 ⟨rfl, h12, f12⟩
            refine ⟨_, rfl, ?_⟩
            refine wpQuiet_nil ?_
            rintro W3' ⟨⟨W4', hW3⟩, rfl⟩
            have HN := Lib.hid (And.intro (h12.keep hW3) (((HBX.out.below hW).fr f12 rfl rfl rfl).below hW3))
            clear hW h12 f12 hW3
            go_wp2
            go_roundw
            case rel => exact ⟨k3 + 1, _, _, by omega, by go_num, HN.out.1, HN.out.2, HF3.out, fun h => by omega⟩
            case measure => simp [intOf]; omega
          · obtain rfl : k3 = f.sts.length := by omega
            have HREL : Hid (∃ s3 x3, Pr w wr B R { v0 fc with its := f.its } s3 x3 ∧ BxF f fc w.heap.size q4 (.pointer (some ⟨B.wb, 0, none⟩)) (.pointer (some ⟨R.wb, 0, none⟩)) wr ∧ Far s3 x3 300 ∧ (f.sts = [] → s3 = s')) :=
              ⟨s3, x3, hpr, hbx, ⟨by have := hfar.1; omega, by have := hfar.2.1; omega, by have := hfar.2.2; omega⟩, fun h => hks (by rw [h]; rfl)⟩
            clear hpr hbx hbw hfar hks hlt3
            go_wp2_with fail
            go_meet
            case rel => exact HREL.out
      case rest =>
      clear HPR5 HBX5
      obtain ⟨s3, x3, hpr, hbx, hfar6, hks3⟩ := hcut
      have HPR6 := Lib.hid hpr; have HBX6 := Lib.hid hbx; have HFAR6 := Lib.hid hfar6; have HKS3 := Lib.hid hks3
      have c40 := hcell hbx.h4 0
      have c41 := hcell hbx.h4 1
      have e20 := hcell hbx.h2 0
      have e21 := hcell hbx.h2 1
      have ef := hfrz hbx.h2
      clear hpr hbx hfar6 hks3
      go_upto_region 27 with (fail)
      iterate 11 (first | go_says fail | go_values | go_skip | go_guarded | go_step | go_upon | go_back)
      have h2s := setCell_same (setCell_same HBX6.out.h2 0 (.pointer (some ⟨B.wb, 0, none⟩))) 1 (.pointer (some ⟨R.wb, 0, none⟩))
      have r0 := hcell h2s 0
      have r1 := hcell h2s 1
      refine bodyPost_ret (v := .agg #[.pointer (some ⟨B.wb, 0, none⟩), .pointer (some ⟨R.wb, 0, none⟩)]) (by simp [results, Tryz.results12, go_sem, r0, r1]; done) rfl ?_
      have hf2 := (setPair_fr HBX6.out.h2 0 (.pointer (some ⟨B.wb, 0, none⟩))).trans (setPair_fr (setCell_same HBX6.out.h2 0 (.pointer (some ⟨B.wb, 0, none⟩))) 1 (.pointer (some ⟨R.wb, 0, none⟩)))
      have hB2 := below_set (o := 1) (v := .pointer (some ⟨R.wb, 0, none⟩)) (below_set (o := 0) (v := .pointer (some ⟨B.wb, 0, none⟩)) HPR6.out.ws.below (Nat.le_succ _)) (Nat.le_succ _)
      exact ⟨B, R, _, s3, x3, rfl, ⟨HPR6.out.ws.fr hf2 pairTy_w hB2, HPR6.out.rd.fr hf2 pairTy_r hB2, HPR6.out.al⟩, by rw [show f.conf = fc from HFC.out], HFAR6.out, by rw [show f.conf = fc from HFC.out]; exact HOK.out, fun g1 g2 g3 g4 => by
        rw [HKS3.out g3, HKS2.out g4, HKS.out g2, HS2.out g1, show f.conf = fc from HFC.out]; exact HS1.out.symm⟩

end Go.Proofs.YthehdcpjlddbpaaGreat

/-
  A First that comes in: opened; is it great?
-/
namespace Go.Proofs.YthehdcpjlddbpaaGreat
open Go.RowKit
set_option linter.unusedVariables false

/-- It may be read. -/
structure FstRd (w : World) (f : Fst) : Prop where
  its : Itms w (.slice f.ia f.its.length f.ic) f.its
  puts : Tri w f.pa f.pc f.puts
  sts : RWds w f.sa f.sc f.sts
theorem FstRd.below {w w' : World} {f : Fst} (h : FstRd w f) (hb : Below w.heap.size w w') : FstRd w' f := ⟨h.its.below hb (Nat.le_refl _), h.puts.below hb, h.sts.below hb⟩
theorem wf_u8 {x : Int} (h : (Lit.int .u8 x).wf = true) : 0 ≤ x ∧ x < 256 := by
  have hmin : IntKind.u8.min = 0 := rfl
  have hmax : IntKind.u8.max = 255 := rfl
  simp only [Lit.wf, Bool.and_eq_true, decide_eq_true_eq] at h; omega
theorem tri_of {w : World} {v : Value} (h : Leaf.holds w (.sl [.int .u8, .int .u8, .int .u8]) v) : ∃ (l : List (Int × Int × Int)) (a : Option Addr) (cap : Nat), v = .slice a l.length cap ∧ Tri w a cap l := by
  obtain ⟨l, a, cap, rfl, h1, h2, h3, h4, h5⟩ := recs_of h
  obtain ⟨m, hm, hp⟩ := list_of (fun i (x : Int × Int × Int) => l[i]? = some [.int .u8 x.1, .int .u8 x.2.1, .int .u8 x.2.2] ∧ (0 ≤ x.1 ∧ x.1 < 256) ∧ (0 ≤ x.2.1 ∧ x.2.1 < 256) ∧ (0 ≤ x.2.2 ∧ x.2.2 < 256)) l.length (fun i hi => by
    obtain ⟨c0, r, e0, g0, h⟩ := allHold_cons (h4 _ (List.getElem_mem hi))
    obtain ⟨c1, r, rfl, g1, h⟩ := allHold_cons h
    obtain ⟨c2, r, rfl, g2, h⟩ := allHold_cons h
    obtain rfl := allHold_nil h
    obtain ⟨z0, rfl, k0⟩ := holds_int g0
    obtain ⟨z1, rfl, k1⟩ := holds_int g1
    obtain ⟨z2, rfl, k2⟩ := holds_int g2
    exact ⟨(z0, z1, z2), by rw [List.getElem?_eq_getElem hi, e0], wf_u8 k0, wf_u8 k1, wf_u8 k2⟩)
  refine ⟨m, a, cap, by rw [hm], ⟨by omega, h2, fun x hx => ?_, ?_⟩⟩
  · obtain ⟨i, hi, rfl⟩ := List.mem_iff_getElem.1 hx
    exact (hp i hi).2
  · rcases h5 with rfl | ⟨b, off, rfl, h6⟩
    · exact .inl (List.length_eq_zero_iff.1 hm)
    · refine .inr ⟨b, off, rfl, fun i hi => ?_⟩
      have hi2 : i < l.length := by omega
      have hq := (hp i (by omega)).1
      rw [List.getElem?_eq_getElem hi2, Option.some.injEq] at hq
      have a0 := h6 i hi2 0 (by decide)
      have a1 := h6 i hi2 1 (by decide)
      have a2 := h6 i hi2 2 (by decide)
      rw [hq] at a0 a1 a2
      exact ⟨by simpa using a0, by simpa [Nat.add_assoc] using a1, by simpa [Nat.add_assoc] using a2⟩
theorem wds_of {w : World} {v : Value} (h : Leaf.holds w (.sl [.int .u64, .int .u64]) v) : ∃ (l : List (Int × Int)) (a : Option Addr) (cap : Nat), v = .slice a l.length cap ∧ RWds w a cap l := by
  obtain ⟨l, a, cap, rfl, h1, h2, h3, h4, h5⟩ := recs_of h
  obtain ⟨m, hm, hp⟩ := list_of (fun i (x : Int × Int) => l[i]? = some [.int .u64 x.1, .int .u64 x.2] ∧ (Lit.int .u64 x.1).wf = true ∧ (Lit.int .u64 x.2).wf = true) l.length (fun i hi => by
    obtain ⟨c0, r, e0, g0, h⟩ := allHold_cons (h4 _ (List.getElem_mem hi))
    obtain ⟨c1, r, rfl, g1, h⟩ := allHold_cons h
    obtain rfl := allHold_nil h
    obtain ⟨z0, rfl, k0⟩ := holds_int g0
    obtain ⟨z1, rfl, k1⟩ := holds_int g1
    exact ⟨(z0, z1), by rw [List.getElem?_eq_getElem hi, e0], k0, k1⟩)
  refine ⟨m, a, cap, by rw [hm], ⟨by omega, h2, fun x hx => ?_, ?_⟩⟩
  · obtain ⟨i, hi, rfl⟩ := List.mem_iff_getElem.1 hx
    exact (hp i hi).2
  · rcases h5 with rfl | ⟨b, off, rfl, h6⟩
    · exact .inl (List.length_eq_zero_iff.1 hm)
    · refine .inr ⟨b, off, rfl, fun i hi => ?_⟩
      have hi2 : i < l.length := by omega
      have hq := (hp i (by omega)).1
      rw [List.getElem?_eq_getElem hi2, Option.some.injEq] at hq
      have a0 := h6 i hi2 0 (by decide)
      have a1 := h6 i hi2 1 (by decide)
      rw [hq] at a0 a1
      exact ⟨by simpa using a0, by simpa [Nat.add_assoc] using a1⟩
def fstLeaves : List Leaf := [.int .i64, .int .i64, .int .i64, .int .i64, .int .i64, .bool, .sl itmLeaves, .sl [.int .u8, .int .u8, .int .u8], .sl [.int .u64, .int .u64], .int .i64]
theorem leaves_first : leaves Tryz.prog 5 28 = some fstLeaves := by kernel_rfl
theorem fst_of {w : World} {cs : List Value} (h : Leaf.allHold w fstLeaves cs) : ∃ f : Fst, cs = f.cells.toList ∧ FstRd w f := by
  unfold fstLeaves at h
  obtain ⟨c0, r, rfl, g0, h⟩ := allHold_cons h
  obtain ⟨c1, r, rfl, g1, h⟩ := allHold_cons h
  obtain ⟨c2, r, rfl, g2, h⟩ := allHold_cons h
  obtain ⟨c3, r, rfl, g3, h⟩ := allHold_cons h
  obtain ⟨c4, r, rfl, g4, h⟩ := allHold_cons h
  obtain ⟨c5, r, rfl, g5, h⟩ := allHold_cons h
  obtain ⟨c6, r, rfl, g6, h⟩ := allHold_cons h
  obtain ⟨c7, r, rfl, g7, h⟩ := allHold_cons h
  obtain ⟨c8, r, rfl, g8, h⟩ := allHold_cons h
  obtain ⟨c9, r, rfl, g9, h⟩ := allHold_cons h
  obtain rfl := allHold_nil h
  obtain ⟨z0, rfl, -⟩ := holds_int g0
  obtain ⟨z1, rfl, -⟩ := holds_int g1
  obtain ⟨z2, rfl, -⟩ := holds_int g2
  obtain ⟨z3, rfl, -⟩ := holds_int g3
  obtain ⟨z4, rfl, -⟩ := holds_int g4
  obtain ⟨z5, rfl⟩ := holds_bool g5
  obtain ⟨z9, rfl, -⟩ := holds_int g9
  obtain ⟨its, hi⟩ := itms_of g6
  obtain ⟨ia, ic, rfl, hi2⟩ := id hi
  obtain ⟨puts, pa, pc, rfl, hp⟩ := tri_of g7
  obtain ⟨sts, sa, sc, rfl, hs⟩ := wds_of g8
  exact ⟨⟨⟨z0, z1, z2, z3, z4⟩, z5, ia, ic, its, pa, pc, puts, sa, sc, sts, z9⟩, rfl, hi, hp, hs⟩

set_option maxRecDepth 10000 in
theorem fst_open {H : Type} {w : World} {enc : TypeId × Value → H} {base : Nat} {v : Value} {d : DataW H} {p : List MemPlace} (k : DataW.Trod enc Tryz.prog w 0 (fun _ => true) true 28 v d p) (o : Value.okWide Tryz.prog w .any base 28 v) : ∃ f : Fst, v = .agg f.cells ∧ FstRd w f := by
  obtain ⟨cs, rfl, -⟩ := Go.WideShapes.okWide_struct Tryz.underlying28 o
  obtain ⟨f, hf, hr⟩ := fst_of (opened leaves_first k)
  refine ⟨f, ?_, hr⟩
  have : cs.toList = f.cells.toList := hf
  rw [Array.toList_inj.1 this]
theorem fst_cells {W : World} {q : Nat} {f : Fst} (z : W.heap[q]? = some (.cells f.cells 28 (0, 0))) : W.cell? ⟨q, 0, none⟩ = some (.int .i64 f.c.bits) ∧ W.cell? ⟨q, 1, none⟩ = some (.int .i64 f.c.budget) ∧ W.cell? ⟨q, 2, none⟩ = some (.int .i64 f.c.tries) ∧ W.cell? ⟨q, 3, none⟩ = some (.int .i64 f.c.quantum) ∧ W.cell? ⟨q, 4, none⟩ = some (.int .i64 f.c.way) ∧ W.cell? ⟨q, 5, none⟩ = some (.bool f.gr) ∧ W.cell? ⟨q, 6, none⟩ = some (.slice f.ia f.its.length f.ic) ∧ W.cell? ⟨q, 7, none⟩ = some (.slice f.pa f.puts.length f.pc) ∧ W.cell? ⟨q, 8, none⟩ = some (.slice f.sa f.sts.length f.sc) ∧ W.cell? ⟨q, 9, none⟩ = some (.int .i64 f.ticks) :=
  ⟨hcell z 0, hcell z 1, hcell z 2, hcell z 3, hcell z 4, hcell z 5, hcell z 6, hcell z 7, hcell z 8, hcell z 9⟩

set_option maxRecDepth 100000 in
set_option maxHeartbeats 2000000 in
theorem great_any (f : Fst) (w : World) (hr : FstRd w f) : Calls Tryz.prog 10 #[.agg #[.int .i64 f.c.bits, .int .i64 f.c.budget, .int .i64 f.c.tries, .int .i64 f.c.quantum, .int .i64 f.c.way, .bool f.gr, .slice f.ia f.its.length f.ic, .slice f.pa f.puts.length f.pc, .slice f.sa f.sts.length f.sc, .int .i64 f.ticks]] w
    fun e w' => ∃ g, e = .returned (.bool g) ∧ Below w.heap.size w w' ∧ (g = false → FstIn w f ∧ ∀ y ∈ f.its, y.key.size ≤ 400 ∧ y.val.size ≤ 2000) := by
  have hB := below_alloc w (.cells f.cells 28)
  have z := heap_alloc_new w (.cells f.cells 28)
  have HR := Lib.hid hr; have HB := Lib.hid hB
  clear hr hB
  go_enter Tryz.func10, Tryz.ntmps10
  go_upto_region 1 with (fail)
  change Code.wp _ _ _ _ (w.alloc (.cells f.cells 28))
  generalize w.alloc (.cells f.cells 28) = w1 at *
  have c6 : w1.cell? ⟨w.heap.size, 6, none⟩ = some (.slice f.ia f.its.length f.ic) := hcell z 6
  have c7 : w1.cell? ⟨w.heap.size, 7, none⟩ = some (.slice f.pa f.puts.length f.pc) := hcell z 7
  have c8 : w1.cell? ⟨w.heap.size, 8, none⟩ = some (.slice f.sa f.sts.length f.sc) := hcell z 8
  clear z
  by_cases h1 : 40 < f.its.length
  · have d1 : decide ((40 : Int) < f.its.length) = true := by simp; omega
    go_wp2
    go_ret
    exact ⟨true, rfl, HB.out, fun h => by cases h⟩
  have d1 : decide ((40 : Int) < f.its.length) = false := by simp; omega
  by_cases h2 : 60 < f.puts.length
  · have d2 : decide ((60 : Int) < f.puts.length) = true := by simp; omega
    go_wp2
    go_ret
    exact ⟨true, rfl, HB.out, fun h => by cases h⟩
  have d2 : decide ((60 : Int) < f.puts.length) = false := by simp; omega
  by_cases h3 : 60 < f.sts.length
  · have d3 : decide ((60 : Int) < f.sts.length) = true := by simp; omega
    go_wp2
    go_ret
    exact ⟨true, rfl, HB.out, fun h => by cases h⟩
  have d3 : decide ((60 : Int) < f.sts.length) = false := by simp; omega
  have HN : Hid (f.its.length ≤ 40 ∧ f.puts.length ≤ 60 ∧ f.sts.length ≤ 60) := ⟨by omega, by omega, by omega⟩
  clear h2 h3
  go_wp2_with fail
  clear d1 d2 d3
  go_loopw [3] (fun i wr => ∃ k : Nat, k ≤ f.its.length ∧ i = .int .i64 k ∧ w1 = wr ∧ ∀ j, (hj : j < f.its.length) → j < k → (f.its[j]).key.size ≤ 400 ∧ (f.its[j]).val.size ≤ 2000) (fun i _ => f.its.length - (intOf i).toNat)
  case atStart => exact ⟨0, by omega, rfl, rfl, fun j _ h => by omega⟩
  case round =>
    obtain ⟨k, hk, rfl, rfl, hs⟩ := hrel
    by_cases hlt : k < f.its.length
    · have hlt' : (k : Int) < f.its.length := by omega
      obtain ⟨b, off, y, hia, hy, q0, q1, q2, q3, q4, q5⟩ := Itms.cell HR.out.its k hlt
      have hg : b < w.heap.size := World.block_lt_of_cell? _ _ q0
      have q0 := (HB.out.cell (p := ⟨b, _, none⟩) hg).trans q0
      have q1 := (HB.out.cell (p := ⟨b, _, none⟩) hg).trans q1
      rw [hia] at c6
      have hyk : f.its[k] = y := by rw [List.getElem?_eq_getElem hlt] at hy; exact Option.some.inj hy
      have HS := Lib.hid hs; have HY := Lib.hid hyk
      clear hs hy hyk hia hg q2 q3 q4 q5
      by_cases hk1 : 400 < y.key.size
      · have e1 : decide ((400 : Int) < y.key.size) = true := by simp; omega
        go_wp2
        go_ret
        exact ⟨true, rfl, HB.out, fun h => by cases h⟩
      have e1 : decide ((400 : Int) < y.key.size) = false := by simp; omega
      by_cases hv1 : 2000 < y.val.size
      · have e2 : decide ((2000 : Int) < y.val.size) = true := by simp; omega
        go_wp2
        go_ret
        exact ⟨true, rfl, HB.out, fun h => by cases h⟩
      have e2 : decide ((2000 : Int) < y.val.size) = false := by simp; omega
      have HYS : Hid (y.key.size ≤ 400 ∧ y.val.size ≤ 2000) := ⟨by omega, by omega⟩
      clear hk1 hv1
      go_wp2
      go_roundw
      case rel => exact ⟨k + 1, by omega, by go_num, by first | rfl | trivial, fun j hj hjk => by
        rcases Nat.lt_or_ge j k with h | h
        · exact HS.out j hj h
        · obtain rfl : j = k := by omega
          rw [HY.out]; exact HYS.out⟩
      case measure => simp [intOf]; omega
    · obtain rfl : k = f.its.length := by omega
      have HS := Lib.hid hs
      clear hs
      go_wp2
      go_ret
      refine ⟨false, rfl, HB.out, fun _ => ?_⟩
      have hall : ∀ y ∈ f.its, y.key.size ≤ 400 ∧ y.val.size ≤ 2000 := fun y hy => by
        obtain ⟨i, hi, rfl⟩ := List.mem_iff_getElem.1 hy
        exact HS.out i hi hi
      exact ⟨⟨HR.out.its, HR.out.puts, HR.out.sts, HN.out.1, HN.out.2.1, HN.out.2.2, fun y hy => by have := (hall y hy).1; omega⟩, hall⟩
end Go.Proofs.YthehdcpjlddbpaaGreat

/-
  Tickets: a Take, a Give, who waits.
-/
namespace Go.Proofs.YthehdcpjlddbpaaGreat
open Go.RowKit
set_option linter.unusedVariables false

/-- Of the old blocks only b, and such of some types, have turned. -/
structure Fx (K : TypeId → Bool) (mp : Bool) (b : Nat) (w w' : World) : Prop where
  size : w.heap.size ≤ w'.heap.size
  cells : ∀ (k : Nat) (cs : Array Value) (T : TypeId) (fr : Nat × Nat), w.heap[k]? = some (.cells cs T fr) → K T = false → k ≠ b → w'.heap[k]? = some (.cells cs T fr)
  map : mp = false → ∀ (k : Nat) (es : Array MapEntry) (cl : Nat), w.heap[k]? = some (.map es cl) → k ≠ b → w'.heap[k]? = some (.map es cl)
theorem Fr.fx {K : TypeId → Bool} {mp : Bool} {w w' : World} (h : Fr K mp w w') (b : Nat) : Fx K mp b w w' := ⟨h.size, fun k cs T fr h1 h2 _ => h.cells k cs T fr h1 h2, fun hm k es cl h1 _ => h.map hm k es cl h1⟩
theorem Fx.trans {K : TypeId → Bool} {mp : Bool} {b : Nat} {a c d : World} (h : Fx K mp b a c) (k : Fx K mp b c d) : Fx K mp b a d :=
  ⟨Nat.le_trans h.size k.size, fun i cs T fr hi hT hb => k.cells i cs T fr (h.cells i cs T fr hi hT hb) hT hb, fun hm i es cl hi hb => k.map hm i es cl (h.map hm i es cl hi hb) hb⟩
theorem set_fx (K : TypeId → Bool) (mp : Bool) (w : World) (b o : Nat) (v : Value) : Fx K mp b w (w.setCell ⟨b, o, none⟩ v) :=
  ⟨by simp [World.setCell], fun k cs T fr h _ hb => (Below.heap_setCell _ _ _ _ hb).trans h, fun _ k es cl h hb => (Below.heap_setCell _ _ _ _ hb).trans h⟩
theorem Fx.fr {K : TypeId → Bool} {mp : Bool} {b : Nat} {w w' : World} (h : Fx K mp b w w') {cs : Array Value} {T : TypeId} {fr : Nat × Nat} (hb : w.heap[b]? = some (.cells cs T fr)) : Fr (fun x => K x || x == T) mp w w' := by
  refine ⟨h.size, fun k cs2 T2 fr2 h2 hT => ?_, fun hm k es cl h2 => h.map hm k es cl h2 fun c => ?_⟩
  · simp only [Bool.or_eq_false_iff] at hT
    refine h.cells k cs2 T2 fr2 h2 hT.1 fun c => ?_
    subst c
    have := hb.symm.trans h2; simp only [Option.some.injEq, Obj.cells.injEq] at this
    have h3 := hT.2; rw [this.2.1] at h3; simp at h3
  · subst c; rw [hb] at h2; cases h2

theorem mkfunc (fn : Fn) (first cap : Array Value) (w : World) : (Instr.makeFunc fn first cap).run Tryz.prog w = .ok (.func fn first cap) w := rfl
/-- The worlds' types, and a Take's. -/
theorem WS.cellb {w0 w : World} {B : WB} {V : WV} {s : CS} (h : WS w0 w B V s) (t : Nat) (ht : t < 64) : w.cell? ⟨B.wb, 8 + t, none⟩ = some (.int .u64 (V.tk.getD t 0)) := (h.cell (8 + t)).trans (val_tkat B V h.tkl t ht)
theorem WS.hcell' {w0 w : World} {B : WB} {V : WV} {s : CS} (h : WS w0 w B V s) : w.cell? ⟨B.wb, 72, none⟩ = some (.int .i64 V.hd) := (h.cell 72).trans (val_at B V h.tkl).2.2.2.2.2
theorem WS.frz {w0 w : World} {B : WB} {V : WV} {s : CS} (h : WS w0 w B V s) (o : Nat) : w.frozen? ⟨B.wb, o, none⟩ = false := hfrz h.blk o
theorem WS.fx {w0 w w' : World} {B : WB} {V : WV} {s : CS} {K : TypeId → Bool} {b : Nat} (h : WS w0 w B V s) (hf : Fx K false b w w') (hK : ∀ T, wTy T = true → K T = false) {cs : Array Value} {T : TypeId} {fr : Nat × Nat} (hb : w.heap[b]? = some (.cells cs T fr)) (hT : wTy T = false) (hB : Below w0.heap.size w0 w') : WS w0 w' B V s :=
  h.fr (hf.fr hb) (fun x hx => by simp only [Bool.or_eq_false_iff]; exact ⟨hK x hx, by cases hxT : (x == T); rfl; rw [beq_iff_eq] at hxT; subst hxT; rw [hx] at hT; cases hT⟩) hB
theorem set_take {w0 w : World} {B : WB} {V : WV} {s : CS} {b o : Nat} {cs : Array Value} {T : TypeId} (h : WS w0 w B V s) (hb : w.heap[b]? = some (.cells cs T (0, 0))) (hT : wTy T = false) (hlo : w0.heap.size ≤ b) (v : Value) : WS w0 (w.setCell ⟨b, o, none⟩ v) B V s :=
  h.fx (set_fx (fun _ => false) false w b o v) (fun _ _ => rfl) hb hT (keeps_below (setCell_keeps w b o v) h.below h.below.size fun k e => e ▸ hlo)

section
variable {w0 w : World} {B : WB} {V : WV} {s : CS} {b t : Nat} {d : Bool} {k : Int} (h : WS w0 w B V s) (hr : s.room) (hlo : w0.heap.size ≤ b) (ht : t < 64)
include h hr hlo ht
end
end Go.Proofs.YthehdcpjlddbpaaGreat

/-
  The walks of package tagwords: each function computes what TagPure says.
-/
namespace Go.Proofs.YthehdcpjlddbpaaGreat
open Go.RowKit TagPure
set_option linter.unusedVariables false


theorem there_in (s : Int) (w : World) (h0 : 0 ≤ s) (h1 : s < 4) : Calls Tryz.prog 125 #[.int .i64 s] w fun e w' => e = .returned (.bool true) ∧ w = w' := by
  go_enter Tryz.func125, Tryz.ntmps125
  go_wp2
  go_ret
  exact ⟨rfl, rfl⟩
theorem there_out (s : Int) (w : World) (h : s < 0 ∨ 4 ≤ s) : Calls Tryz.prog 125 #[.int .i64 s] w fun e w' => e = .returned (.bool false) ∧ w = w' := by
  by_cases h0 : s < 0
  · go_enter Tryz.func125, Tryz.ntmps125
    go_wp2
    go_ret
    exact ⟨rfl, rfl⟩
  · have h1 : 0 ≤ s := by omega
    have hd : decide (s < 4) = false := by simp; omega
    go_enter Tryz.func125, Tryz.ntmps125
    go_wp2
    go_ret
    exact ⟨rfl, rfl⟩

/-- The four tags as an array. -/
def tags4 (x : Int) : List Value := [.int .i64 (tg x 0), .int .i64 (tg x 1), .int .i64 (tg x 2), .int .i64 (tg x 3)]

theorem part_eq (x : Int) (h0 : 0 ≤ x) (h1 : x < 18446744073709551616) (i : Nat) (d : Int) (hd : d = 256 ^ i) (hp : 1 ≤ d) : wrap64 (bits BinOp.and IntKind.u64 (x / d) 255) = tg x i := by
  subst hd
  have a : 0 ≤ x / 256 ^ i := Int.ediv_nonneg h0 (by omega)
  have b : x / 256 ^ i ≤ x := Int.ediv_le_self _ h0
  rw [and255 _ a (by omega), IntWalk.wrap64_in _ (by omega)]
  rfl

set_option maxHeartbeats 400000 in
theorem parts_any (x : Int) (w : World) (h0 : 0 ≤ x) (h1 : x < 18446744073709551616) :
    Calls Tryz.prog 126 #[.int .u64 x] w fun e w' => e = .returned (.agg (tags4 x).toArray) ∧ Below w.heap.size w w' := by
  go_enter Tryz.func126, Tryz.ntmps126
  go_wp2
  refine wp_loop_rounds 5 ?_
  rw [rounds_succ]; go_wp2
  rw [rounds_succ]; go_wp2
  rw [rounds_succ]; go_wp2
  rw [rounds_succ]; go_wp2
  rw [rounds_succ]; go_wp2
  have e0 : wrap64 (bits BinOp.and IntKind.u64 x 255) = tg x 0 := by have := part_eq x h0 h1 0 1 rfl (by omega); simpa using this
  have e1 := part_eq x h0 h1 1 256 rfl (by omega)
  have e2 := part_eq x h0 h1 2 65536 rfl (by omega)
  have e3 := part_eq x h0 h1 3 16777216 rfl (by omega)
  rw [e0, e1, e2, e3]
  refine bodyPost_ret (v := .agg (tags4 x).toArray) (by simp [results, Tryz.results126, go_sem, tags4]) rfl ⟨rfl, ?_⟩
  exact (Below.refl _ _).alloc (Nat.le_refl _) _

theorem tags_get (x : Int) (n : Nat) (hn : n < 4) (w : World) : (Instr.index 245 (.agg (tags4 x).toArray) (.int .i64 n)).run Tryz.prog w = .ok (.int .i64 (tg x n)) w := by
  rw [run_index_ints (P := Tryz.prog) Tryz.underlying245 Tryz.underlying3 (by kernel_rfl) (tags4 x) rfl .i64 n hn w]
  match n, hn with
  | 0, _ => rfl
  | 1, _ => rfl
  | 2, _ => rfl
  | 3, _ => rfl

theorem tag_in (x s : Int) (w : World) (h0 : 0 ≤ x) (h1 : x < 18446744073709551616) (hs : 0 ≤ s) (hs4 : s < 4) :
    Calls Tryz.prog 68 #[.int .u64 x, .int .i64 s] w fun e w' => e = .returned (.int .i64 (tg x s.toNat)) ∧ Below w.heap.size w w' := by
  obtain ⟨n, rfl⟩ := Int.eq_ofNat_of_zero_le hs
  have hn : n < 4 := by omega
  have hi := tags_get x n hn
  go_enter Tryz.func68, Tryz.ntmps68
  go_wp2_with (first | (go_at_call 125; refine (there_in _ _ (by omega) (by omega)).mono ?_; rintro e w' ⟨rfl, rfl⟩) | (go_at_call 126; refine (parts_any _ _ h0 h1).mono ?_; rintro e w' ⟨rfl, hb⟩))
  go_ret
  exact ⟨rfl, hb⟩
theorem tag_out (x s : Int) (w : World) (h : s < 0 ∨ 4 ≤ s) :
    Calls Tryz.prog 68 #[.int .u64 x, .int .i64 s] w fun e w' => e = .returned (.int .i64 0) ∧ w = w' := by
  go_enter Tryz.func68, Tryz.ntmps68
  go_wp2_with (first | (go_at_call 125; refine (there_out _ _ h).mono ?_; rintro e w' ⟨rfl, rfl⟩))
  go_ret
  exact ⟨rfl, rfl⟩

/-- The tag of a slot, whatever slot. -/
theorem tag_any (x s : Int) (w : World) (h0 : 0 ≤ x) (h1 : x < 18446744073709551616) :
    Calls Tryz.prog 68 #[.int .u64 x, .int .i64 s] w fun e w' => e = .returned (.int .i64 (tagOf x s)) ∧ Below w.heap.size w w' := by
  by_cases h : 0 ≤ s ∧ s < 4
  · unfold tagOf; rw [if_pos h]; exact tag_in x s w h0 h1 h.1 h.2
  · unfold tagOf; rw [if_neg h]; exact (tag_out x s w (by omega)).mono fun e w' ⟨a, b⟩ => ⟨a, b ▸ Below.refl _ _⟩

theorem with_out (x s t : Int) (w : World) (h : (s < 0 ∨ 4 ≤ s) ∨ t < 0 ∨ 255 < t) :
    Calls Tryz.prog 209 #[.int .u64 x, .int .i64 s, .int .i64 t] w fun e w' => e = .returned (.int .u64 x) ∧ w = w' := by
  by_cases hs : s < 0 ∨ 4 ≤ s
  · go_enter Tryz.func209, Tryz.ntmps209
    go_wp2_with (first | (go_at_call 125; refine (there_out _ _ hs).mono ?_; rintro e w' ⟨rfl, rfl⟩))
    go_ret
    exact ⟨rfl, rfl⟩
  · by_cases ht : t < 0
    · go_enter Tryz.func209, Tryz.ntmps209
      go_wp2_with (first | (go_at_call 125; refine (there_in _ _ (by omega) (by omega)).mono ?_; rintro e w' ⟨rfl, rfl⟩))
      go_ret
      exact ⟨rfl, rfl⟩
    · have ht' : 0 ≤ t := by omega
      have ht2 : 255 < t := by omega
      go_enter Tryz.func209, Tryz.ntmps209
      go_wp2_with (first | (go_at_call 125; refine (there_in _ _ (by omega) (by omega)).mono ?_; rintro e w' ⟨rfl, rfl⟩))
      go_ret
      exact ⟨rfl, rfl⟩
set_option maxHeartbeats 800000 in
theorem with_in (x t : Int) (n : Nat) (w : World) (h0 : 0 ≤ x) (h1 : x < 18446744073709551616) (hn : n < 4) (t0 : 0 ≤ t) (t1 : t ≤ 255) :
    Calls Tryz.prog 209 #[.int .u64 x, .int .i64 n, .int .i64 t] w fun e w' => e = .returned (.int .u64 (put x n t)) ∧ Below w.heap.size w w' := by
  match n, hn with
  | 0, _ =>
    go_enter Tryz.func209, Tryz.ntmps209
    go_wp2_with (first | (go_at_call 125; refine (there_in _ _ (by omega) (by omega)).mono ?_; rintro e w' ⟨rfl, rfl⟩))
    go_quiet (fail)
    go_wp2
    go_ret
    exact ⟨ret_u64 (put0 x t h0 h1 t0 t1), below_drewN _ _⟩
  | 1, _ =>
    go_enter Tryz.func209, Tryz.ntmps209
    go_wp2_with (first | (go_at_call 125; refine (there_in _ _ (by omega) (by omega)).mono ?_; rintro e w' ⟨rfl, rfl⟩))
    go_quiet (fail)
    go_wp2
    go_ret
    exact ⟨ret_u64 (put1 x t h0 h1 t0 t1), below_drewN _ _⟩
  | 2, _ =>
    go_enter Tryz.func209, Tryz.ntmps209
    go_wp2_with (first | (go_at_call 125; refine (there_in _ _ (by omega) (by omega)).mono ?_; rintro e w' ⟨rfl, rfl⟩))
    go_quiet (fail)
    go_wp2
    go_ret
    exact ⟨ret_u64 (put2 x t h0 h1 t0 t1), below_drewN _ _⟩
  | 3, _ =>
    go_enter Tryz.func209, Tryz.ntmps209
    go_wp2_with (first | (go_at_call 125; refine (there_in _ _ (by omega) (by omega)).mono ?_; rintro e w' ⟨rfl, rfl⟩))
    go_quiet (fail)
    go_wp2
    go_ret
    exact ⟨ret_u64 (put3 x t h0 h1 t0 t1), below_drewN _ _⟩

/-- The word with a tag at a slot, whatever slot and tag. -/
theorem with_any (x s t : Int) (w : World) (h0 : 0 ≤ x) (h1 : x < 18446744073709551616) :
    Calls Tryz.prog 209 #[.int .u64 x, .int .i64 s, .int .i64 t] w fun e w' => e = .returned (.int .u64 (withOf x s t)) ∧ Below w.heap.size w w' := by
  by_cases h : (0 ≤ s ∧ s < 4) ∧ 0 ≤ t ∧ t ≤ 255
  · unfold withOf; rw [if_pos h]
    have := with_in x t s.toNat w h0 h1 (by omega) h.2.1 h.2.2
    rwa [Int.toNat_of_nonneg h.1.1] at this
  · unfold withOf; rw [if_neg h]; exact (with_out x s t w (by omega)).mono fun e w' ⟨a, b⟩ => ⟨a, b ▸ Below.refl _ _⟩

/-- How many of the first k slots are not free. -/
def cnt (x : Int) : Nat → Nat
  | 0 => 0
  | k + 1 => cnt x k + if tg x k = 0 then 0 else 1
theorem cnt_le (x : Int) (k : Nat) : cnt x k ≤ k := by
  induction k with
  | zero => exact Nat.le_refl _
  | succ k ih => simp only [cnt]; split <;> omega

/-- The lowest free slot from k on (n more), or -1. -/
def freeFrom (x : Int) : Nat → Nat → Int
  | _, 0 => -1
  | k, n + 1 => if tg x k = 0 then k else freeFrom x (k + 1) n

/-- The slots among the first k that have a tag. -/
def has (x t : Int) : Nat → List Nat
  | 0 => []
  | k + 1 => has x t k ++ if tg x k = t then [k] else []
theorem has_le (x t : Int) (k : Nat) : (has x t k).length ≤ k := by
  induction k with
  | zero => exact Nat.le_refl _
  | succ k ih => simp only [has, List.length_append]; split <;> simp <;> omega
/-- Numbers as cells. -/
def cells (l : List Nat) : List Value := l.map fun (n : Nat) => Value.int .i64 n

theorem clip_ints (v : Value) (n base : Nat) (xs : List Value) (w : World) (h : Lst w base v n xs) :
    Calls Tryz.prog 200 #[v] w fun e w' => ∃ v', e = .returned v' ∧ w = w' ∧ Lst w base v' n xs := by
  rcases h with ⟨rfl, rfl, rfl⟩ | ⟨g, off, cap, cur, e, rfl, h2, h3, h4, h5, h6⟩
  · go_enter Tryz.func200, Tryz.ntmps200
    go_wp2
    go_ret
    exact ⟨_, rfl, rfl, .inl ⟨rfl, rfl, rfl⟩⟩
  · unfold maxLen at h5
    go_enter Tryz.func200, Tryz.ntmps200
    go_wp2
    go_ret
    exact ⟨_, rfl, rfl, .inr ⟨g, off, n, cur, e, rfl, h2, h3, Nat.le_refl _, by unfold maxLen; omega, h6⟩⟩
end Go.Proofs.YthehdcpjlddbpaaGreat

/-
  Puts and Outs of a slot: their beginnings, their lines.
-/
namespace Go.Proofs.YthehdcpjlddbpaaGreat
open Go.RowKit
set_option linter.unusedVariables false

/-- A slot that is changed. -/
structure SL where
  tg : Int
  it : Int
  at_ : Int
  x : Int
  ln : Int
abbrev SL.cs (s : SL) (rest : List Value) : Array Value := (Value.int .u64 s.tg :: .int .u64 s.it :: .int .i64 s.at_ :: .int .u64 s.x :: .int .i64 s.ln :: rest).toArray
def SlotAt (w : World) (b : Nat) (T : TypeId) (s : SL) (rest : List Value) : Prop := w.heap[b]? = some (.cells (s.cs rest) T (0, 0))
section
variable {w w' : World} {b : Nat} {T : TypeId} {s : SL} {rest : List Value} (h : SlotAt w b T s rest)
include h
theorem SlotAt.lt : b < w.heap.size := (Array.getElem?_eq_some_iff.1 h).1
theorem SlotAt.below (hb : Below w.heap.size w w') : SlotAt w' b T s rest := (hb.block _ h.lt).trans h
theorem SlotAt.c0 : w.cell? ⟨b, 0, none⟩ = some (.int .u64 s.tg) := by rw [hcell h 0]; simp
theorem SlotAt.c1 : w.cell? ⟨b, 1, none⟩ = some (.int .u64 s.it) := by rw [hcell h 1]; simp
theorem SlotAt.c2 : w.cell? ⟨b, 2, none⟩ = some (.int .i64 s.at_) := by rw [hcell h 2]; simp
theorem SlotAt.c3 : w.cell? ⟨b, 3, none⟩ = some (.int .u64 s.x) := by rw [hcell h 3]; simp
theorem SlotAt.c4 : w.cell? ⟨b, 4, none⟩ = some (.int .i64 s.ln) := by rw [hcell h 4]; simp
theorem SlotAt.set3 (x : Int) : SlotAt (w.setCell ⟨b, 3, none⟩ (.int .u64 x)) b T { s with x := x } rest := by
  have := setCell_same h 3 (.int .u64 x)
  simpa [SlotAt, SL.cs] using this
theorem SlotAt.set4 (x : Int) : SlotAt (w.setCell ⟨b, 4, none⟩ (.int .i64 x)) b T { s with ln := x } rest := by
  have := setCell_same h 4 (.int .i64 x)
  simpa [SlotAt, SL.cs] using this
end
def sof (b u s : Int) : SL := if itemA b u s = 0 then ⟨0, 0, 0, 0, 0⟩ else ⟨tagsA b u, itemA b u s, s, 0, 0⟩
abbrev SL.agg (s : SL) : Value := .agg #[.int .u64 s.tg, .int .u64 s.it, .int .i64 s.at_, .int .u64 s.x, .int .i64 s.ln]
theorem box5s (w : World) (a b c d e : Value) (T : TypeId) : ∀ o, (w.alloc (.cells #[a, b, c, d, e] T)).cell? ⟨w.heap.size, o, none⟩ = (#[a, b, c, d, e] : Array Value)[o]? := fun o => by
  have := heap_alloc_new w (.cells #[a, b, c, d, e] T)
  unfold World.cell?; simp only; rw [this]; rfl

theorem sfive_below {w w1 : World} {q : Nat} {v0 v1 v2 v3 v4 : Value} (h : Below w.heap.size w w1) (hq : w.heap.size ≤ q) : Below w.heap.size w (((((w1.setCell ⟨q, 0, none⟩ v0).setCell ⟨q, 1, none⟩ v1).setCell ⟨q, 2, none⟩ v2).setCell ⟨q, 3, none⟩ v3).setCell ⟨q, 4, none⟩ v4) :=
  below_set (below_set (below_set (below_set (below_set h hq) hq) hq) hq) hq
theorem sfive_set {w1 : World} {q : Nat} {a b c d e : Value} {T : TypeId} (h : w1.heap[q]? = some (.cells #[a, b, c, d, e] T (0, 0))) (v0 v1 v2 v3 v4 : Value) :
    (((((w1.setCell ⟨q, 0, none⟩ v0).setCell ⟨q, 1, none⟩ v1).setCell ⟨q, 2, none⟩ v2).setCell ⟨q, 3, none⟩ v3).setCell ⟨q, 4, none⟩ v4).heap[q]? = some (.cells #[v0, v1, v2, v3, v4] T (0, 0)) :=
  setCell_same (setCell_same (setCell_same (setCell_same (setCell_same h 0 v0) 1 v1) 2 v2) 3 v3) 4 v4
set_option maxRecDepth 10000 in
set_option maxHeartbeats 1000000 in
theorem pof_any (b u s : Int) (hs : (Lit.int .i64 s).wf = true) (w : World) : Calls Tryz.prog 69 #[.agg #[.int .i64 b, .int .i64 u, .int .i64 s]] w fun e w' => e = .returned (sof b u s).agg ∧ Below w.heap.size w w' := by
  have hit := fun w => item_any b u s hs w
  have hitx := fun {w : World} (st : ExtW w) => item_any b u s hs st.val
  have htg := fun {w : World} (st : ExtW w) => tags_any b u st.val
  have hB1 : Below w.heap.size w ((w.alloc (.cells #[.int .i64 b, .int .i64 u, .int .i64 s] 42)).alloc (.cells #[.int .u64 0, .int .u64 0, .int .i64 0, .int .u64 0, .int .i64 0] 162)) :=
    bnext (below_alloc w _) (below_alloc _ _)
  have hz : ∀ o, ((w.alloc (.cells #[.int .i64 b, .int .i64 u, .int .i64 s] 42)).alloc (.cells #[.int .u64 0, .int .u64 0, .int .i64 0, .int .u64 0, .int .i64 0] 162)).cell? ⟨w.heap.size, o, none⟩ = (#[.int .i64 b, .int .i64 u, .int .i64 s] : Array Value)[o]? := fun o =>
    ((below_alloc _ _).cell (p := ⟨w.heap.size, o, none⟩) (by simp)).trans (box3 w b u s _ o)
  have hq : ((w.alloc (.cells #[.int .i64 b, .int .i64 u, .int .i64 s] 42)).alloc (.cells #[.int .u64 0, .int .u64 0, .int .i64 0, .int .u64 0, .int .i64 0] 162)).heap[w.heap.size + 1]? = some (.cells #[.int .u64 0, .int .u64 0, .int .i64 0, .int .u64 0, .int .i64 0] 162 (0, 0)) := by
    simpa using heap_alloc_new (w.alloc (.cells #[.int .i64 b, .int .i64 u, .int .i64 s] 42)) (.cells #[.int .u64 0, .int .u64 0, .int .i64 0, .int .u64 0, .int .i64 0] 162)
  have hsz : ((w.alloc (.cells #[.int .i64 b, .int .i64 u, .int .i64 s] 42)).alloc (.cells #[.int .u64 0, .int .u64 0, .int .i64 0, .int .u64 0, .int .i64 0] 162)).heap.size = w.heap.size + 2 := by simp
  have hZ := Lib.hid hz; have HQ := Lib.hid hq; have HB1 := Lib.hid hB1; have HSZ := Lib.hid hsz
  clear hz hq hB1 hsz
  unfold sof
  cases h0 : (itemA b u s == 0)
  · rw [if_neg (beq_eq_false_iff_ne.1 h0)]
    generalize itemA b u s = I at *
    generalize tagsA b u = G at *
    go_enter Tryz.func69, Tryz.ntmps69
    go_upto_region 3 with (go_at_call 55; refine (hit _).mono ?_; rintro e w1 ⟨rfl, b1⟩; have hq1 := (b1.block _ (by rw [HSZ.out]; omega)).trans HQ.out; have hz0 := (b1.cell (p := ⟨w.heap.size, 0, none⟩) (by rw [HSZ.out]; show w.heap.size < _; omega)).trans (hZ.out 0); have hz1 := (b1.cell (p := ⟨w.heap.size, 1, none⟩) (by rw [HSZ.out]; show w.heap.size < _; omega)).trans (hZ.out 1); have hz2 := (b1.cell (p := ⟨w.heap.size, 2, none⟩) (by rw [HSZ.out]; show w.heap.size < _; omega)).trans (hZ.out 2); have HB2 := Lib.hid (HB1.out.trans (b1.mono HB1.out.size)); clear b1)
    have x0 := fun st : ExtW w1 => st.cell hz0
    have x1 := fun st : ExtW w1 => st.cell hz1
    have x2 := fun st : ExtW w1 => st.cell hz2
    have HQ1 := Lib.hid hq1
    clear hz0 hz1 hz2 hq1 hit
    refine wp_region_ext_tail 8 (by kernel_rfl) (by kernel_rfl) ?_
    simp only [List.take_succ_cons, List.take_zero, List.drop_succ_cons, List.drop_zero]
    repeat (go_big_quiet_step (first | (go_at_call 55; with_reducible refine calls_ext (hitx _)) | (go_at_call 56; with_reducible refine calls_ext (htg _))))
    refine wpQuiet_nil ?_
    rintro W ⟨⟨W2, hW⟩, rfl⟩
    have hq1 := (hW.block _ (Array.getElem?_eq_some_iff.1 HQ1.out).1).trans HQ1.out
    have y0 := hcell hq1 0; have y1 := hcell hq1 1; have y2 := hcell hq1 2; have y3 := hcell hq1 3; have y4 := hcell hq1 4
    have yf := hfrz hq1
    have HW := Lib.hid (HB2.out.trans (hW.mono HB2.out.size))
    have hq5 := sfive_set hq1 (.int .u64 G) (.int .u64 I) (.int .i64 s) (.int .u64 0) (.int .i64 0)
    have hB5 := sfive_below (v0 := .int .u64 G) (v1 := .int .u64 I) (v2 := .int .i64 s) (v3 := .int .u64 0) (v4 := .int .i64 0) HW.out (show w.heap.size ≤ w.heap.size + 1 by omega)
    clear x0 x1 x2 hW hq1
    go_wp2
    generalize World.setCell _ _ _ = W5 at *
    have k0 := hcell hq5 0; have k1 := hcell hq5 1; have k2 := hcell hq5 2; have k3 := hcell hq5 3; have k4 := hcell hq5 4
    simp only [List.getElem?_toArray, List.getElem?_cons_zero, List.getElem?_cons_succ] at k0 k1 k2 k3 k4
    refine bodyPost_ret (v := .agg #[_, _, _, _, _]) (by simp [results, Tryz.results69, go_sem, k0, k1, k2, k3, k4]) rfl ⟨rfl, hB5⟩
  · rw [if_pos (beq_iff_eq.1 h0)]
    rw [beq_iff_eq.1 h0] at hit
    clear hitx htg h0
    go_enter Tryz.func69, Tryz.ntmps69
    go_wp2_with (go_at_call 55; refine (hit _).mono ?_; rintro e w1 ⟨rfl, b1⟩; have hq1 := (b1.block _ (by rw [HSZ.out]; omega)).trans HQ.out; have y0 := hcell hq1 0; have y1 := hcell hq1 1; have y2 := hcell hq1 2; have y3 := hcell hq1 3; have y4 := hcell hq1 4; have yf := hfrz hq1; have hq5 := sfive_set hq1 (.int .u64 0) (.int .u64 0) (.int .i64 0) (.int .u64 0) (.int .i64 0); have hB5 := sfive_below (v0 := .int .u64 0) (v1 := .int .u64 0) (v2 := .int .i64 0) (v3 := .int .u64 0) (v4 := .int .i64 0) (HB1.out.trans (b1.mono HB1.out.size)) (show w.heap.size ≤ w.heap.size + 1 by omega); clear hq1 b1)
    generalize World.setCell _ _ _ = W5 at *
    have k0 := hcell hq5 0; have k1 := hcell hq5 1; have k2 := hcell hq5 2; have k3 := hcell hq5 3; have k4 := hcell hq5 4
    simp only [List.getElem?_toArray, List.getElem?_cons_zero, List.getElem?_cons_succ] at k0 k1 k2 k3 k4
    refine bodyPost_ret (v := .agg #[_, _, _, _, _]) (by simp [results, Tryz.results69, go_sem, k0, k1, k2, k3, k4]) rfl ⟨rfl, hB5⟩

theorem newput_in (b u s g r : Int) (hs : (Lit.int .i64 s).wf = true) (hg : 1 ≤ g ∧ g ≤ 255) (hr : 1 ≤ r) (w : World) : Calls Tryz.prog 19 #[.agg #[.int .i64 b, .int .i64 u, .int .i64 s], .int .i64 g, .int .i64 r] w
    fun e w' => ∃ q, e = .returned (.pointer (some ⟨q, 0, none⟩)) ∧ SlotAt w' q 167 (sof b u s) [.int .i64 g, .int .i64 r] ∧ w.heap.size ≤ q ∧ Below w.heap.size w w' := by
  have ho := fun w => pof_any b u s hs w
  have h1 : decide (g < 1) = false := by simp; omega
  have h2 : decide (255 < g) = false := by simp; omega
  have h3 : decide (r < 1) = false := by simp; omega
  clear hg hr
  go_enter Tryz.func19, Tryz.ntmps19
  go_wp2_with (go_at_call 69; refine (ho _).mono ?_; rintro e w1 ⟨rfl, b1⟩)
  go_ret
  have hB1 := bnext (below_alloc w _) b1
  exact ⟨_, rfl, heap_alloc_new w1 _, hB1.size, bnext hB1 (below_alloc w1 _)⟩
theorem newout_any (b u s : Int) (hs : (Lit.int .i64 s).wf = true) (w : World) : Calls Tryz.prog 18 #[.agg #[.int .i64 b, .int .i64 u, .int .i64 s]] w
    fun e w' => ∃ q, e = .returned (.pointer (some ⟨q, 0, none⟩)) ∧ SlotAt w' q 165 (sof b u s) [] ∧ w.heap.size ≤ q ∧ Below w.heap.size w w' := by
  have ho := fun w => pof_any b u s hs w
  go_enter Tryz.func18, Tryz.ntmps18
  go_wp2_with (go_at_call 69; refine (ho _).mono ?_; rintro e w1 ⟨rfl, b1⟩)
  go_ret
  have hB1 := bnext (below_alloc w _) b1
  exact ⟨_, rfl, heap_alloc_new w1 _, hB1.size, bnext hB1 (below_alloc w1 _)⟩

section
variable {w0 w : World} {B : WB} {V : WV} {s : CS} {b : Nat} {T : TypeId} {σ : SL} {rest : List Value} (h : WS w0 w B V s) (hr : s.room) (hS : SlotAt w b T σ rest) (hT : wTy T = false) (hlo : w0.heap.size ≤ b) (hg : (Lit.int .u64 σ.tg).wf = true)
include h hr hS hT hlo hg
set_option maxRecDepth 10000 in
set_option maxHeartbeats 1000000 in
theorem slot_load : Calls Tryz.prog 188 #[.pointer (some ⟨b, 0, none⟩), .pointer (some ⟨B.wb, 0, none⟩)] w fun e w' => e = .returned (.tuple #[]) ∧ WS w0 w' B V (s.acc 1 σ.tg (s.val σ.tg)) ∧ SlotAt w' b T { σ with x := s.val σ.tg } rest ∧ Fx wTy true b w w' := by
  have hld : ∀ W, Below w.heap.size w W → Calls Tryz.prog 133 #[.pointer (some ⟨B.cb, 0, none⟩), .int .u64 σ.tg] W fun e w' => e = .returned (.int .u64 (s.val σ.tg)) ∧ WS w0 w' B V (s.acc 1 σ.tg (s.val σ.tg)) ∧ Fr wTy true W w' := fun W hW => (h.keep hW).load hr _ hg
  have hd0 := h.keep (Below.refl w.heap.size w).drew
  have y0 : w.drew.cell? ⟨B.wb, 0, none⟩ = some (.pointer (some ⟨B.cb, 0, none⟩)) := hd0.c0
  have y1 : w.drew.cell? ⟨b, 0, none⟩ = some (.int .u64 σ.tg) := SlotAt.c0 (w := w.drew) hS
  have hlw := hld w.drew (Below.refl w.heap.size w).drew
  have HS := Lib.hid hS
  clear hd0 h hr hS hg hld
  go_enter Tryz.func188, Tryz.ntmps188
  go_wp2_with fail
  go_region_with (go_at_call 133; refine hlw.mono ?_; rintro e w2 ⟨rfl, h2, f2⟩; have hs2 : SlotAt w2 b T σ rest := f2.cells _ _ _ _ HS.out hT; have z3 := hs2.c3; have zf := hfrz hs2 3; have H2 := Lib.hid h2; have F2 := Lib.hid f2; have HS2 := Lib.hid hs2; clear h2 f2 hs2 y0 y1 hlw)
  all_goals go_wp2
  all_goals go_end0
  all_goals exact ⟨rfl, set_take (o := 3) H2.out HS2.out hT hlo _, HS2.out.set3 _, (show Fx wTy true b w w2 from ⟨F2.out.size, fun k cs T fr h1 h2 _ => F2.out.cells k cs T fr h1 h2, fun h => by cases h⟩).trans (set_fx _ _ _ _ _ _)⟩
omit hT hlo in
set_option maxRecDepth 10000 in
set_option maxHeartbeats 1000000 in
theorem slot_store (g : Int) (hx : 0 ≤ σ.x ∧ σ.x < 18446744073709551616) : Calls Tryz.prog 189 #[.pointer (some ⟨b, 0, none⟩), .pointer (some ⟨B.wb, 0, none⟩), .int .i64 g] w fun e w' => e = .returned (.tuple #[]) ∧ WS w0 w' B V (s.acc 2 σ.tg (TagPure.withOf σ.x σ.at_ g)) ∧ Fr wTy true w w' := by
  have hst : ∀ W, Below w.heap.size w W → Calls Tryz.prog 87 #[.pointer (some ⟨B.cb, 0, none⟩), .int .u64 σ.tg, .int .u64 (TagPure.withOf σ.x σ.at_ g)] W fun e w' => e = .returned (.int .u64 (s.val σ.tg)) ∧ WS w0 w' B V (s.acc 2 σ.tg (TagPure.withOf σ.x σ.at_ g)) ∧ Fr wTy true W w' := fun W hW => (h.keep hW).store hr _ hg _ (withOf_wf _ _ _ hx.1 hx.2)
  have hwx := fun {w : World} (st : ExtW w) => with_any σ.x σ.at_ g st.val hx.1 hx.2
  have x0 := fun st : ExtW w => st.cell h.c0
  have x1 := fun st : ExtW w => st.cell hS.c0
  have x2 := fun st : ExtW w => st.cell hS.c2
  have x3 := fun st : ExtW w => st.cell hS.c3
  have HST := Lib.hid hst
  clear h hr hS hg hst hx
  go_enter Tryz.func189, Tryz.ntmps189
  go_wp2_with fail
  refine wp_region_ext_tail 18 (by kernel_rfl) (by kernel_rfl) ?_
  simp only [List.take_succ_cons, List.take_zero, List.drop_succ_cons, List.drop_zero]
  repeat (go_big_quiet_step ((go_at_call 209; with_reducible refine calls_ext (hwx _))))
  refine wpQuiet_nil ?_
  rintro W ⟨⟨W2, hW⟩, rfl⟩
  have hsw := HST.out _ hW
  have HW := Lib.hid hW
  clear x0 x1 x2 x3 hwx hW
  go_wp2_with (go_at_call 87; refine hsw.mono ?_; rintro e w2 ⟨rfl, h2, f2⟩)
  go_end0
  exact ⟨rfl, h2, (below_fr HW.out wTy true).trans f2⟩
end
end Go.Proofs.YthehdcpjlddbpaaGreat

/-
  Puts and Outs: their lines, their steps.
-/
namespace Go.Proofs.YthehdcpjlddbpaaGreat
open Go.RowKit
set_option linter.unusedVariables false

theorem fr_fx {w w' : World} (b : Nat) (F : Fr wTy true w w') : Fx wTy true b w w' := ⟨F.size, fun k cs T fr h1 h2 _ => F.cells k cs T fr h1 h2, fun h => by cases h⟩
section
variable {w0 w : World} {B : WB} {V : WV} {s : CS} {b : Nat} {σ : SL} (h : WS w0 w B V s) (hr : s.room)
include h hr
set_option maxRecDepth 10000 in
set_option maxHeartbeats 1000000 in
theorem put_first {g r : Int} (hS : SlotAt w b 167 σ [.int .i64 g, .int .i64 r]) (hi : (Lit.int .u64 σ.it).wf = true) (hrr : 0 ≤ r ∧ r < 9223372036854775808) : Calls Tryz.prog 230 #[.pointer (some ⟨b, 0, none⟩), .pointer (some ⟨B.wb, 0, none⟩)] w fun e w' => e = .returned (.tuple #[]) ∧ WS w0 w' B V (s.acc 2 σ.it r) ∧ Fr wTy true w w' := by
  have e1 : IntKind.u64.wrap r = r := by rw [IntKind.wrap_u64]; omega
  have hst : ∀ W, Below w.heap.size w W → Calls Tryz.prog 87 #[.pointer (some ⟨B.cb, 0, none⟩), .int .u64 σ.it, .int .u64 r] W fun e w' => e = .returned (.int .u64 (s.val σ.it)) ∧ WS w0 w' B V (s.acc 2 σ.it r) ∧ Fr wTy true W w' := fun W hW => (h.keep hW).store hr _ hi _ (bd_wf (by omega))
  have x0 := fun st : ExtW w => st.cell h.c0
  have x1 := fun st : ExtW w => st.cell hS.c1
  have x6 : ∀ st : ExtW w, st.val.cell? ⟨b, 6, none⟩ = some (.int .i64 r) := fun st => st.cell (by rw [hcell hS 6]; rfl)
  have HST := Lib.hid hst
  clear h hr hS hi hst hrr
  go_enter Tryz.func230, Tryz.ntmps230
  go_wp2_with fail
  refine wp_region_ext_tail 14 (by kernel_rfl) (by kernel_rfl) ?_
  simp only [List.take_succ_cons, List.take_zero, List.drop_succ_cons, List.drop_zero]
  repeat (go_big_quiet_step (fail))
  refine wpQuiet_nil ?_
  rintro W ⟨⟨W2, hW⟩, rfl⟩
  have hsw := HST.out _ hW
  have HW := Lib.hid hW
  clear x0 x1 x6 hW
  go_wp2_with (go_at_call 87; refine hsw.mono ?_; rintro e w2 ⟨rfl, h2, f2⟩)
  go_end0
  exact ⟨rfl, h2, (below_fr HW.out wTy true).trans f2⟩
theorem put_second {rest : List Value} (hlo : w0.heap.size ≤ b) (hS : SlotAt w b 167 σ rest) (hg : (Lit.int .u64 σ.tg).wf = true) : Calls Tryz.prog 231 #[.pointer (some ⟨b, 0, none⟩), .pointer (some ⟨B.wb, 0, none⟩)] w fun e w' => e = .returned (.tuple #[]) ∧ WS w0 w' B V (s.acc 1 σ.tg (s.val σ.tg)) ∧ SlotAt w' b 167 { σ with x := s.val σ.tg } rest ∧ Fx wTy true b w w' := by
  have hl := slot_load h hr hS rfl hlo hg
  have y0 := hS.c0
  clear h hr hS hg
  go_enter Tryz.func231, Tryz.ntmps231
  go_wp2_with (go_at_call 188; refine hl.mono ?_; rintro e w2 ⟨rfl, h2⟩)
  go_end0
  exact ⟨rfl, h2⟩
theorem out_first {rest : List Value} (hlo : w0.heap.size ≤ b) (hS : SlotAt w b 165 σ rest) (hg : (Lit.int .u64 σ.tg).wf = true) : Calls Tryz.prog 156 #[.pointer (some ⟨b, 0, none⟩), .pointer (some ⟨B.wb, 0, none⟩)] w fun e w' => e = .returned (.tuple #[]) ∧ WS w0 w' B V (s.acc 1 σ.tg (s.val σ.tg)) ∧ SlotAt w' b 165 { σ with x := s.val σ.tg } rest ∧ Fx wTy true b w w' := by
  have hl := slot_load h hr hS rfl hlo hg
  have y0 := hS.c0
  clear h hr hS hg
  go_enter Tryz.func156, Tryz.ntmps156
  go_wp2_with (go_at_call 188; refine hl.mono ?_; rintro e w2 ⟨rfl, h2⟩)
  go_end0
  exact ⟨rfl, h2⟩
theorem out_second {rest : List Value} (hS : SlotAt w b 165 σ rest) (hg : (Lit.int .u64 σ.tg).wf = true) (hx : 0 ≤ σ.x ∧ σ.x < 18446744073709551616) : Calls Tryz.prog 157 #[.pointer (some ⟨b, 0, none⟩), .pointer (some ⟨B.wb, 0, none⟩)] w fun e w' => e = .returned (.tuple #[]) ∧ WS w0 w' B V (s.acc 2 σ.tg (TagPure.withOf σ.x σ.at_ 0)) ∧ Fr wTy true w w' := by
  have hl := slot_store h hr hS hg 0 hx
  have y0 := hS.c0
  clear h hr hS hg hx
  go_enter Tryz.func157, Tryz.ntmps157
  go_wp2_with (go_at_call 189; refine hl.mono ?_; rintro e w2 ⟨rfl, h2⟩)
  go_end0
  exact ⟨rfl, h2⟩
set_option maxRecDepth 10000 in
set_option maxHeartbeats 1000000 in
theorem put_third {g r : Int} (hS : SlotAt w b 167 σ [.int .i64 g, .int .i64 r]) (hg : (Lit.int .u64 σ.tg).wf = true) (hx : 0 ≤ σ.x ∧ σ.x < 18446744073709551616) : Calls Tryz.prog 232 #[.pointer (some ⟨b, 0, none⟩), .pointer (some ⟨B.wb, 0, none⟩)] w fun e w' => e = .returned (.tuple #[]) ∧ WS w0 w' B V (s.acc 2 σ.tg (TagPure.withOf σ.x σ.at_ g)) ∧ Fr wTy true w w' := by
  have hl : ∀ W, Below w.heap.size w W → Calls Tryz.prog 189 #[.pointer (some ⟨b, 0, none⟩), .pointer (some ⟨B.wb, 0, none⟩), .int .i64 g] W fun e w' => e = .returned (.tuple #[]) ∧ WS w0 w' B V (s.acc 2 σ.tg (TagPure.withOf σ.x σ.at_ g)) ∧ Fr wTy true W w' := fun W hW => slot_store (h.keep hW) hr (hS.below hW) hg g hx
  have x0 := fun st : ExtW w => st.cell hS.c0
  have x5 : ∀ st : ExtW w, st.val.cell? ⟨b, 5, none⟩ = some (.int .i64 g) := fun st => st.cell (by rw [hcell hS 5]; rfl)
  have HL := Lib.hid hl
  clear h hr hS hg hx hl
  go_enter Tryz.func232, Tryz.ntmps232
  go_wp2_with fail
  refine wp_region_ext_tail 8 (by kernel_rfl) (by kernel_rfl) ?_
  simp only [List.take_succ_cons, List.take_zero, List.drop_succ_cons, List.drop_zero]
  repeat (go_big_quiet_step (fail))
  refine wpQuiet_nil ?_
  rintro W ⟨⟨W2, hW⟩, rfl⟩
  have hsw := HL.out _ hW
  have HW := Lib.hid hW
  clear x0 x5 hW
  go_wp2_with (go_at_call 189; refine hsw.mono ?_; rintro e w2 ⟨rfl, h2, f2⟩)
  go_end0
  exact ⟨rfl, h2, (below_fr HW.out wTy true).trans f2⟩
set_option maxRecDepth 10000 in
set_option maxHeartbeats 1000000 in
theorem out_third {rest : List Value} (hS : SlotAt w b 165 σ rest) (hi : (Lit.int .u64 σ.it).wf = true) : Calls Tryz.prog 158 #[.pointer (some ⟨b, 0, none⟩), .pointer (some ⟨B.wb, 0, none⟩)] w fun e w' => e = .returned (.tuple #[]) ∧ WS w0 w' B V (s.acc 2 σ.it 0) ∧ Fr wTy true w w' := by
  have hst : ∀ W, Below w.heap.size w W → Calls Tryz.prog 87 #[.pointer (some ⟨B.cb, 0, none⟩), .int .u64 σ.it, .int .u64 0] W fun e w' => e = .returned (.int .u64 (s.val σ.it)) ∧ WS w0 w' B V (s.acc 2 σ.it 0) ∧ Fr wTy true W w' := fun W hW => (h.keep hW).store hr _ hi _ (by decide)
  have x0 := fun st : ExtW w => st.cell h.c0
  have x00 := fun st : ExtW w => st.cell hS.c0
  have x1 := fun st : ExtW w => st.cell hS.c1
  have HST := Lib.hid hst
  clear h hr hS hi hst
  go_enter Tryz.func158, Tryz.ntmps158
  go_wp2_with fail
  refine wp_region_ext_tail 9 (by kernel_rfl) (by kernel_rfl) ?_
  simp only [List.take_succ_cons, List.take_zero, List.drop_succ_cons, List.drop_zero]
  repeat (go_big_quiet_step (fail))
  refine wpQuiet_nil ?_
  rintro W ⟨⟨W2, hW⟩, rfl⟩
  have hsw := HST.out _ hW
  have HW := Lib.hid hW
  clear x0 x00 x1 hW
  go_wp2_with (go_at_call 87; refine hsw.mono ?_; rintro e w2 ⟨rfl, h2, f2⟩)
  go_end0
  exact ⟨rfl, h2, (below_fr HW.out wTy true).trans f2⟩
end

abbrev fv (f : Fn) : Value := .func f #[] #[]

theorem puts_any (w : World) : Calls Tryz.prog 229 #[] w fun e w' => e = .returned (.agg #[fv (.func 230), fv (.func 231), fv (.func 232)]) ∧ Below w.heap.size w w' := by
  go_enter Tryz.func229, Tryz.ntmps229
  go_wp2
  refine bodyPost_ret (v := .agg #[fv (.func 230), fv (.func 231), fv (.func 232)]) (by simp [results, Tryz.results229, go_sem]) rfl ⟨rfl, ?_⟩
  exact below_alloc' _ _
set_option maxRecDepth 10000 in
theorem Putover {w : World} {b : Nat} {σ : SL} {rest : List Value} (hS : SlotAt w b 167 σ rest) (a c : Bool) (ha : (σ.tg == 0) = a) (hc : (σ.ln == 3) = c) : Calls Tryz.prog 227 #[.pointer (some ⟨b, 0, none⟩)] w fun e w' => e = .returned (.bool (a || c)) ∧ Below w.heap.size w w' := by
  have x0 := fun st : ExtW w => st.cell hS.c0
  have x4 := fun st : ExtW w => st.cell hS.c4
  have hp := fun {w : World} (st : ExtW w) => puts_any st.val
  clear hS
  cases a
  all_goals
    go_enter Tryz.func227, Tryz.ntmps227
    go_wp2_with fail
    refine wp_region_ext (by kernel_rfl) (by kernel_rfl) ?_
    repeat (go_big_quiet_step ((go_at_call 229; with_reducible refine calls_ext (hp _))))
    refine wpQuiet_nil ?_
    rintro W ⟨⟨W2, hW⟩, rfl⟩
    clear x0 x4
    go_wp2
    go_ret
    exact ⟨by simp, hW⟩

theorem outs_any (w : World) : Calls Tryz.prog 112 #[] w fun e w' => e = .returned (.agg #[fv (.func 156), fv (.func 157), fv (.func 158)]) ∧ Below w.heap.size w w' := by
  go_enter Tryz.func112, Tryz.ntmps112
  go_wp2
  refine bodyPost_ret (v := .agg #[fv (.func 156), fv (.func 157), fv (.func 158)]) (by simp [results, Tryz.results112, go_sem]) rfl ⟨rfl, ?_⟩
  exact below_alloc' _ _
set_option maxRecDepth 10000 in
theorem Outover {w : World} {b : Nat} {σ : SL} {rest : List Value} (hS : SlotAt w b 165 σ rest) (a c : Bool) (ha : (σ.tg == 0) = a) (hc : (σ.ln == 3) = c) : Calls Tryz.prog 111 #[.pointer (some ⟨b, 0, none⟩)] w fun e w' => e = .returned (.bool (a || c)) ∧ Below w.heap.size w w' := by
  have x0 := fun st : ExtW w => st.cell hS.c0
  have x4 := fun st : ExtW w => st.cell hS.c4
  have hp := fun {w : World} (st : ExtW w) => outs_any st.val
  clear hS
  cases a
  all_goals
    go_enter Tryz.func111, Tryz.ntmps111
    go_wp2_with fail
    refine wp_region_ext (by kernel_rfl) (by kernel_rfl) ?_
    repeat (go_big_quiet_step ((go_at_call 112; with_reducible refine calls_ext (hp _))))
    refine wpQuiet_nil ?_
    rintro W ⟨⟨W2, hW⟩, rfl⟩
    clear x0 x4
    go_wp2
    go_ret
    exact ⟨by simp, hW⟩

theorem cell_lt {w : World} {b o : Nat} {v : Value} (h : w.cell? ⟨b, o, none⟩ = some v) : b < w.heap.size := by
  unfold World.cell? at h; simp only at h
  rcases Nat.lt_or_ge b w.heap.size with h1 | h1
  · exact h1
  · rw [Array.getElem?_eq_none h1] at h; cases h

set_option maxRecDepth 10000 in
set_option maxHeartbeats 1000000 in
theorem put_step0 {w0 w : World} {B : WB} {V : WV} {s : CS} {b : Nat} {σ : SL} {g r : Int} (h : WS w0 w B V s) (hr : s.room) (hlo : w0.heap.size ≤ b) (hS : SlotAt w b 167 σ [.int .i64 g, .int .i64 r]) (hz : σ.tg ≠ 0) (hg : (Lit.int .u64 σ.tg).wf = true) (hl : σ.ln = 0) (hi : (Lit.int .u64 σ.it).wf = true) (hrr : 0 ≤ r ∧ r < 9223372036854775808) :
    Calls Tryz.prog 228 #[.pointer (some ⟨b, 0, none⟩), .pointer (some ⟨B.wb, 0, none⟩)] w fun e w' => e = .returned (.bool false) ∧ WS w0 w' B V (s.acc 2 σ.it r) ∧ SlotAt w' b 167 { σ with ln := 1 } [.int .i64 g, .int .i64 r] ∧ Fx wTy true b w w' := by
  have hz' : (σ.tg == 0) = false := beq_eq_false_iff_ne.2 hz
  have ho := Putover hS false false hz' (by rw [hl]; rfl)
  have hcallee : ∀ W, Below w.heap.size w W → Calls Tryz.prog 230 #[.pointer (some ⟨b, 0, none⟩), .pointer (some ⟨B.wb, 0, none⟩)] W fun e w' => e = .returned (.tuple #[]) ∧ WS w0 w' B V (s.acc 2 σ.it r) ∧ SlotAt w' b 167 (σ) [.int .i64 g, .int .i64 r] ∧ Fx wTy true b W w' := fun W hW =>
    (put_first (h.keep hW) hr (hS.below hW) hi hrr).mono fun e w' ⟨he, hw, hf⟩ => ⟨he, hw, hf.cells _ _ _ _ (hS.below hW) rfl, fr_fx b hf⟩
  have hln : (σ).ln = 0 := hl
  have hso : ((σ).tg == 0) = false := hz'
  have hidx : ∀ W : World, (Instr.index 341 (.agg #[fv (.func 230), fv (.func 231), fv (.func 232)]) (.int .i64 0)).run Tryz.prog W = .ok (fv (.func 230)) W := fun W => by kernel_rfl
  have hp := fun {w : World} (st : ExtW w) => puts_any st.val
  have hc4 := hS.c4
  rw [hl] at hc4
  have HC := Lib.hid hcallee; have H0 := Lib.hid hln; have HSO := Lib.hid hso
  clear h hr hS hg hcallee hl hz hz' hln hso hi hrr
  go_enter Tryz.func228, Tryz.ntmps228
  go_upto_region 2 with (go_at_call 227; refine ho.mono ?_; rintro e w1 ⟨rfl, b1⟩; have x4 := (fun st : ExtW w1 => st.cell ((b1.cell (p := ⟨b, 4, none⟩) (cell_lt hc4)).trans hc4)); have B1 := Lib.hid b1; clear b1 ho hc4)
  refine wp_region_ext_tail 9 (by kernel_rfl) (by kernel_rfl) ?_
  simp only [List.take_succ_cons, List.take_zero, List.drop_succ_cons, List.drop_zero]
  repeat (go_big_quiet_step ((go_at_call 229; with_reducible refine calls_ext (hp _))))
  refine wpQuiet_nil ?_
  rintro W ⟨⟨W2, hW⟩, rfl⟩
  have hb2 := B1.out.trans (hW.mono B1.out.size)
  have hcw := HC.out _ hb2
  have HB2 := Lib.hid hb2
  clear x4 hp hidx hW hb2
  go_upto_region 4 with (go_at_call 230; refine hcw.mono ?_; rintro e w3 ⟨rfl, h3, s3, f3⟩; have y4 := s3.c4; rw [H0.out] at y4; have yf := hfrz s3 4; have H3 := Lib.hid h3; have S3 := Lib.hid s3; have F3 := Lib.hid f3; clear h3 s3 f3 hcw)
  have ho2 := Putover (S3.out.set4 (1)) false false HSO.out rfl
  have h4 := set_take (o := 4) H3.out S3.out rfl hlo (.int .i64 (1))
  have s4 := S3.out.set4 (1)
  have f4 := (((below_fr HB2.out wTy true).fx b).trans F3.out).trans (set_fx wTy true w3 b 4 (.int .i64 (1)))
  have H4 := Lib.hid h4; have S4 := Lib.hid s4; have F4 := Lib.hid f4
  clear h4 s4 f4 H3 S3 F3 y4 yf
  change Code.wp _ _ _ _ (w3.setCell ⟨b, 4, none⟩ (.int .i64 (1)))
  generalize w3.setCell ⟨b, 4, none⟩ (.int .i64 (1)) = W4 at *
  go_wp2_with (go_at_call 227; refine ho2.mono ?_; rintro e w5 ⟨rfl, b5⟩)
  go_ret
  exact ⟨rfl, H4.out.keep b5, S4.out.below b5, F4.out.trans ((below_fr b5 wTy true).fx b)⟩

set_option maxRecDepth 10000 in
set_option maxHeartbeats 1000000 in
theorem put_step1 {w0 w : World} {B : WB} {V : WV} {s : CS} {b : Nat} {σ : SL} {rest : List Value} (h : WS w0 w B V s) (hr : s.room) (hlo : w0.heap.size ≤ b) (hS : SlotAt w b 167 σ rest) (hz : σ.tg ≠ 0) (hg : (Lit.int .u64 σ.tg).wf = true) (hl : σ.ln = 1)  :
    Calls Tryz.prog 228 #[.pointer (some ⟨b, 0, none⟩), .pointer (some ⟨B.wb, 0, none⟩)] w fun e w' => e = .returned (.bool false) ∧ WS w0 w' B V (s.acc 1 σ.tg (s.val σ.tg)) ∧ SlotAt w' b 167 { { σ with x := s.val σ.tg } with ln := 2 } rest ∧ Fx wTy true b w w' := by
  have hz' : (σ.tg == 0) = false := beq_eq_false_iff_ne.2 hz
  have ho := Putover hS false false hz' (by rw [hl]; rfl)
  have hcallee : ∀ W, Below w.heap.size w W → Calls Tryz.prog 231 #[.pointer (some ⟨b, 0, none⟩), .pointer (some ⟨B.wb, 0, none⟩)] W fun e w' => e = .returned (.tuple #[]) ∧ WS w0 w' B V (s.acc 1 σ.tg (s.val σ.tg)) ∧ SlotAt w' b 167 ({ σ with x := s.val σ.tg }) rest ∧ Fx wTy true b W w' := fun W hW =>
    put_second (h.keep hW) hr hlo (hS.below hW) hg
  have hln : ({ σ with x := s.val σ.tg }).ln = 1 := hl
  have hso : (({ σ with x := s.val σ.tg }).tg == 0) = false := hz'
  have hidx : ∀ W : World, (Instr.index 341 (.agg #[fv (.func 230), fv (.func 231), fv (.func 232)]) (.int .i64 1)).run Tryz.prog W = .ok (fv (.func 231)) W := fun W => by kernel_rfl
  have hp := fun {w : World} (st : ExtW w) => puts_any st.val
  have hc4 := hS.c4
  rw [hl] at hc4
  have HC := Lib.hid hcallee; have H1 := Lib.hid hln; have HSO := Lib.hid hso
  clear h hr hS hg hcallee hl hz hz' hln hso 
  go_enter Tryz.func228, Tryz.ntmps228
  go_upto_region 2 with (go_at_call 227; refine ho.mono ?_; rintro e w1 ⟨rfl, b1⟩; have x4 := (fun st : ExtW w1 => st.cell ((b1.cell (p := ⟨b, 4, none⟩) (cell_lt hc4)).trans hc4)); have B1 := Lib.hid b1; clear b1 ho hc4)
  refine wp_region_ext_tail 9 (by kernel_rfl) (by kernel_rfl) ?_
  simp only [List.take_succ_cons, List.take_zero, List.drop_succ_cons, List.drop_zero]
  repeat (go_big_quiet_step ((go_at_call 229; with_reducible refine calls_ext (hp _))))
  refine wpQuiet_nil ?_
  rintro W ⟨⟨W2, hW⟩, rfl⟩
  have hb2 := B1.out.trans (hW.mono B1.out.size)
  have hcw := HC.out _ hb2
  have HB2 := Lib.hid hb2
  clear x4 hp hidx hW hb2
  go_upto_region 4 with (go_at_call 231; refine hcw.mono ?_; rintro e w3 ⟨rfl, h3, s3, f3⟩; have y4 := s3.c4; rw [H1.out] at y4; have yf := hfrz s3 4; have H3 := Lib.hid h3; have S3 := Lib.hid s3; have F3 := Lib.hid f3; clear h3 s3 f3 hcw)
  have ho2 := Putover (S3.out.set4 (2)) false false HSO.out rfl
  have h4 := set_take (o := 4) H3.out S3.out rfl hlo (.int .i64 (2))
  have s4 := S3.out.set4 (2)
  have f4 := (((below_fr HB2.out wTy true).fx b).trans F3.out).trans (set_fx wTy true w3 b 4 (.int .i64 (2)))
  have H4 := Lib.hid h4; have S4 := Lib.hid s4; have F4 := Lib.hid f4
  clear h4 s4 f4 H3 S3 F3 y4 yf
  change Code.wp _ _ _ _ (w3.setCell ⟨b, 4, none⟩ (.int .i64 (2)))
  generalize w3.setCell ⟨b, 4, none⟩ (.int .i64 (2)) = W4 at *
  go_wp2_with (go_at_call 227; refine ho2.mono ?_; rintro e w5 ⟨rfl, b5⟩)
  go_ret
  exact ⟨rfl, H4.out.keep b5, S4.out.below b5, F4.out.trans ((below_fr b5 wTy true).fx b)⟩

set_option maxRecDepth 10000 in
set_option maxHeartbeats 1000000 in
theorem put_step2 {w0 w : World} {B : WB} {V : WV} {s : CS} {b : Nat} {σ : SL} {g r : Int} (h : WS w0 w B V s) (hr : s.room) (hlo : w0.heap.size ≤ b) (hS : SlotAt w b 167 σ [.int .i64 g, .int .i64 r]) (hz : σ.tg ≠ 0) (hg : (Lit.int .u64 σ.tg).wf = true) (hl : σ.ln = 2) (hx : 0 ≤ σ.x ∧ σ.x < 18446744073709551616) :
    Calls Tryz.prog 228 #[.pointer (some ⟨b, 0, none⟩), .pointer (some ⟨B.wb, 0, none⟩)] w fun e w' => e = .returned (.bool true) ∧ WS w0 w' B V (s.acc 2 σ.tg (TagPure.withOf σ.x σ.at_ g)) ∧ SlotAt w' b 167 { σ with ln := 3 } [.int .i64 g, .int .i64 r] ∧ Fx wTy true b w w' := by
  have hz' : (σ.tg == 0) = false := beq_eq_false_iff_ne.2 hz
  have ho := Putover hS false false hz' (by rw [hl]; rfl)
  have hcallee : ∀ W, Below w.heap.size w W → Calls Tryz.prog 232 #[.pointer (some ⟨b, 0, none⟩), .pointer (some ⟨B.wb, 0, none⟩)] W fun e w' => e = .returned (.tuple #[]) ∧ WS w0 w' B V (s.acc 2 σ.tg (TagPure.withOf σ.x σ.at_ g)) ∧ SlotAt w' b 167 (σ) [.int .i64 g, .int .i64 r] ∧ Fx wTy true b W w' := fun W hW =>
    (put_third (h.keep hW) hr (hS.below hW) hg hx).mono fun e w' ⟨he, hw, hf⟩ => ⟨he, hw, hf.cells _ _ _ _ (hS.below hW) rfl, fr_fx b hf⟩
  have hln : (σ).ln = 2 := hl
  have hso : ((σ).tg == 0) = false := hz'
  have hidx : ∀ W : World, (Instr.index 341 (.agg #[fv (.func 230), fv (.func 231), fv (.func 232)]) (.int .i64 2)).run Tryz.prog W = .ok (fv (.func 232)) W := fun W => by kernel_rfl
  have hp := fun {w : World} (st : ExtW w) => puts_any st.val
  have hc4 := hS.c4
  rw [hl] at hc4
  have HC := Lib.hid hcallee; have H2 := Lib.hid hln; have HSO := Lib.hid hso
  clear h hr hS hg hcallee hl hz hz' hln hso hx
  go_enter Tryz.func228, Tryz.ntmps228
  go_upto_region 2 with (go_at_call 227; refine ho.mono ?_; rintro e w1 ⟨rfl, b1⟩; have x4 := (fun st : ExtW w1 => st.cell ((b1.cell (p := ⟨b, 4, none⟩) (cell_lt hc4)).trans hc4)); have B1 := Lib.hid b1; clear b1 ho hc4)
  refine wp_region_ext_tail 9 (by kernel_rfl) (by kernel_rfl) ?_
  simp only [List.take_succ_cons, List.take_zero, List.drop_succ_cons, List.drop_zero]
  repeat (go_big_quiet_step ((go_at_call 229; with_reducible refine calls_ext (hp _))))
  refine wpQuiet_nil ?_
  rintro W ⟨⟨W2, hW⟩, rfl⟩
  have hb2 := B1.out.trans (hW.mono B1.out.size)
  have hcw := HC.out _ hb2
  have HB2 := Lib.hid hb2
  clear x4 hp hidx hW hb2
  go_upto_region 4 with (go_at_call 232; refine hcw.mono ?_; rintro e w3 ⟨rfl, h3, s3, f3⟩; have y4 := s3.c4; rw [H2.out] at y4; have yf := hfrz s3 4; have H3 := Lib.hid h3; have S3 := Lib.hid s3; have F3 := Lib.hid f3; clear h3 s3 f3 hcw)
  have ho2 := Putover (S3.out.set4 (3)) false true HSO.out rfl
  have h4 := set_take (o := 4) H3.out S3.out rfl hlo (.int .i64 (3))
  have s4 := S3.out.set4 (3)
  have f4 := (((below_fr HB2.out wTy true).fx b).trans F3.out).trans (set_fx wTy true w3 b 4 (.int .i64 (3)))
  have H4 := Lib.hid h4; have S4 := Lib.hid s4; have F4 := Lib.hid f4
  clear h4 s4 f4 H3 S3 F3 y4 yf
  change Code.wp _ _ _ _ (w3.setCell ⟨b, 4, none⟩ (.int .i64 (3)))
  generalize w3.setCell ⟨b, 4, none⟩ (.int .i64 (3)) = W4 at *
  go_wp2_with (go_at_call 227; refine ho2.mono ?_; rintro e w5 ⟨rfl, b5⟩)
  go_ret
  exact ⟨rfl, H4.out.keep b5, S4.out.below b5, F4.out.trans ((below_fr b5 wTy true).fx b)⟩

set_option maxRecDepth 10000 in
set_option maxHeartbeats 1000000 in
theorem out_step0 {w0 w : World} {B : WB} {V : WV} {s : CS} {b : Nat} {σ : SL} {rest : List Value} (h : WS w0 w B V s) (hr : s.room) (hlo : w0.heap.size ≤ b) (hS : SlotAt w b 165 σ rest) (hz : σ.tg ≠ 0) (hg : (Lit.int .u64 σ.tg).wf = true) (hl : σ.ln = 0)  :
    Calls Tryz.prog 57 #[.pointer (some ⟨b, 0, none⟩), .pointer (some ⟨B.wb, 0, none⟩)] w fun e w' => e = .returned (.bool false) ∧ WS w0 w' B V (s.acc 1 σ.tg (s.val σ.tg)) ∧ SlotAt w' b 165 { { σ with x := s.val σ.tg } with ln := 1 } rest ∧ Fx wTy true b w w' := by
  have hz' : (σ.tg == 0) = false := beq_eq_false_iff_ne.2 hz
  have ho := Outover hS false false hz' (by rw [hl]; rfl)
  have hcallee : ∀ W, Below w.heap.size w W → Calls Tryz.prog 156 #[.pointer (some ⟨b, 0, none⟩), .pointer (some ⟨B.wb, 0, none⟩)] W fun e w' => e = .returned (.tuple #[]) ∧ WS w0 w' B V (s.acc 1 σ.tg (s.val σ.tg)) ∧ SlotAt w' b 165 ({ σ with x := s.val σ.tg }) rest ∧ Fx wTy true b W w' := fun W hW =>
    out_first (h.keep hW) hr hlo (hS.below hW) hg
  have hln : ({ σ with x := s.val σ.tg }).ln = 0 := hl
  have hso : (({ σ with x := s.val σ.tg }).tg == 0) = false := hz'
  have hidx : ∀ W : World, (Instr.index 231 (.agg #[fv (.func 156), fv (.func 157), fv (.func 158)]) (.int .i64 0)).run Tryz.prog W = .ok (fv (.func 156)) W := fun W => by kernel_rfl
  have hp := fun {w : World} (st : ExtW w) => outs_any st.val
  have hc4 := hS.c4
  rw [hl] at hc4
  have HC := Lib.hid hcallee; have H0 := Lib.hid hln; have HSO := Lib.hid hso
  clear h hr hS hg hcallee hl hz hz' hln hso 
  go_enter Tryz.func57, Tryz.ntmps57
  go_upto_region 2 with (go_at_call 111; refine ho.mono ?_; rintro e w1 ⟨rfl, b1⟩; have x4 := (fun st : ExtW w1 => st.cell ((b1.cell (p := ⟨b, 4, none⟩) (cell_lt hc4)).trans hc4)); have B1 := Lib.hid b1; clear b1 ho hc4)
  refine wp_region_ext_tail 9 (by kernel_rfl) (by kernel_rfl) ?_
  simp only [List.take_succ_cons, List.take_zero, List.drop_succ_cons, List.drop_zero]
  repeat (go_big_quiet_step ((go_at_call 112; with_reducible refine calls_ext (hp _))))
  refine wpQuiet_nil ?_
  rintro W ⟨⟨W2, hW⟩, rfl⟩
  have hb2 := B1.out.trans (hW.mono B1.out.size)
  have hcw := HC.out _ hb2
  have HB2 := Lib.hid hb2
  clear x4 hp hidx hW hb2
  go_upto_region 4 with (go_at_call 156; refine hcw.mono ?_; rintro e w3 ⟨rfl, h3, s3, f3⟩; have y4 := s3.c4; rw [H0.out] at y4; have yf := hfrz s3 4; have H3 := Lib.hid h3; have S3 := Lib.hid s3; have F3 := Lib.hid f3; clear h3 s3 f3 hcw)
  have ho2 := Outover (S3.out.set4 (1)) false false HSO.out rfl
  have h4 := set_take (o := 4) H3.out S3.out rfl hlo (.int .i64 (1))
  have s4 := S3.out.set4 (1)
  have f4 := (((below_fr HB2.out wTy true).fx b).trans F3.out).trans (set_fx wTy true w3 b 4 (.int .i64 (1)))
  have H4 := Lib.hid h4; have S4 := Lib.hid s4; have F4 := Lib.hid f4
  clear h4 s4 f4 H3 S3 F3 y4 yf
  change Code.wp _ _ _ _ (w3.setCell ⟨b, 4, none⟩ (.int .i64 (1)))
  generalize w3.setCell ⟨b, 4, none⟩ (.int .i64 (1)) = W4 at *
  go_wp2_with (go_at_call 111; refine ho2.mono ?_; rintro e w5 ⟨rfl, b5⟩)
  go_ret
  exact ⟨rfl, H4.out.keep b5, S4.out.below b5, F4.out.trans ((below_fr b5 wTy true).fx b)⟩

set_option maxRecDepth 10000 in
set_option maxHeartbeats 1000000 in
theorem out_step1 {w0 w : World} {B : WB} {V : WV} {s : CS} {b : Nat} {σ : SL} {rest : List Value} (h : WS w0 w B V s) (hr : s.room) (hlo : w0.heap.size ≤ b) (hS : SlotAt w b 165 σ rest) (hz : σ.tg ≠ 0) (hg : (Lit.int .u64 σ.tg).wf = true) (hl : σ.ln = 1) (hx : 0 ≤ σ.x ∧ σ.x < 18446744073709551616) :
    Calls Tryz.prog 57 #[.pointer (some ⟨b, 0, none⟩), .pointer (some ⟨B.wb, 0, none⟩)] w fun e w' => e = .returned (.bool false) ∧ WS w0 w' B V (s.acc 2 σ.tg (TagPure.withOf σ.x σ.at_ 0)) ∧ SlotAt w' b 165 { σ with ln := 2 } rest ∧ Fx wTy true b w w' := by
  have hz' : (σ.tg == 0) = false := beq_eq_false_iff_ne.2 hz
  have ho := Outover hS false false hz' (by rw [hl]; rfl)
  have hcallee : ∀ W, Below w.heap.size w W → Calls Tryz.prog 157 #[.pointer (some ⟨b, 0, none⟩), .pointer (some ⟨B.wb, 0, none⟩)] W fun e w' => e = .returned (.tuple #[]) ∧ WS w0 w' B V (s.acc 2 σ.tg (TagPure.withOf σ.x σ.at_ 0)) ∧ SlotAt w' b 165 (σ) rest ∧ Fx wTy true b W w' := fun W hW =>
    (out_second (h.keep hW) hr (hS.below hW) hg hx).mono fun e w' ⟨he, hw, hf⟩ => ⟨he, hw, hf.cells _ _ _ _ (hS.below hW) rfl, fr_fx b hf⟩
  have hln : (σ).ln = 1 := hl
  have hso : ((σ).tg == 0) = false := hz'
  have hidx : ∀ W : World, (Instr.index 231 (.agg #[fv (.func 156), fv (.func 157), fv (.func 158)]) (.int .i64 1)).run Tryz.prog W = .ok (fv (.func 157)) W := fun W => by kernel_rfl
  have hp := fun {w : World} (st : ExtW w) => outs_any st.val
  have hc4 := hS.c4
  rw [hl] at hc4
  have HC := Lib.hid hcallee; have H1 := Lib.hid hln; have HSO := Lib.hid hso
  clear h hr hS hg hcallee hl hz hz' hln hso hx
  go_enter Tryz.func57, Tryz.ntmps57
  go_upto_region 2 with (go_at_call 111; refine ho.mono ?_; rintro e w1 ⟨rfl, b1⟩; have x4 := (fun st : ExtW w1 => st.cell ((b1.cell (p := ⟨b, 4, none⟩) (cell_lt hc4)).trans hc4)); have B1 := Lib.hid b1; clear b1 ho hc4)
  refine wp_region_ext_tail 9 (by kernel_rfl) (by kernel_rfl) ?_
  simp only [List.take_succ_cons, List.take_zero, List.drop_succ_cons, List.drop_zero]
  repeat (go_big_quiet_step ((go_at_call 112; with_reducible refine calls_ext (hp _))))
  refine wpQuiet_nil ?_
  rintro W ⟨⟨W2, hW⟩, rfl⟩
  have hb2 := B1.out.trans (hW.mono B1.out.size)
  have hcw := HC.out _ hb2
  have HB2 := Lib.hid hb2
  clear x4 hp hidx hW hb2
  go_upto_region 4 with (go_at_call 157; refine hcw.mono ?_; rintro e w3 ⟨rfl, h3, s3, f3⟩; have y4 := s3.c4; rw [H1.out] at y4; have yf := hfrz s3 4; have H3 := Lib.hid h3; have S3 := Lib.hid s3; have F3 := Lib.hid f3; clear h3 s3 f3 hcw)
  have ho2 := Outover (S3.out.set4 (2)) false false HSO.out rfl
  have h4 := set_take (o := 4) H3.out S3.out rfl hlo (.int .i64 (2))
  have s4 := S3.out.set4 (2)
  have f4 := (((below_fr HB2.out wTy true).fx b).trans F3.out).trans (set_fx wTy true w3 b 4 (.int .i64 (2)))
  have H4 := Lib.hid h4; have S4 := Lib.hid s4; have F4 := Lib.hid f4
  clear h4 s4 f4 H3 S3 F3 y4 yf
  change Code.wp _ _ _ _ (w3.setCell ⟨b, 4, none⟩ (.int .i64 (2)))
  generalize w3.setCell ⟨b, 4, none⟩ (.int .i64 (2)) = W4 at *
  go_wp2_with (go_at_call 111; refine ho2.mono ?_; rintro e w5 ⟨rfl, b5⟩)
  go_ret
  exact ⟨rfl, H4.out.keep b5, S4.out.below b5, F4.out.trans ((below_fr b5 wTy true).fx b)⟩

set_option maxRecDepth 10000 in
set_option maxHeartbeats 1000000 in
theorem out_step2 {w0 w : World} {B : WB} {V : WV} {s : CS} {b : Nat} {σ : SL} {rest : List Value} (h : WS w0 w B V s) (hr : s.room) (hlo : w0.heap.size ≤ b) (hS : SlotAt w b 165 σ rest) (hz : σ.tg ≠ 0) (hg : (Lit.int .u64 σ.tg).wf = true) (hl : σ.ln = 2) (hi : (Lit.int .u64 σ.it).wf = true) :
    Calls Tryz.prog 57 #[.pointer (some ⟨b, 0, none⟩), .pointer (some ⟨B.wb, 0, none⟩)] w fun e w' => e = .returned (.bool true) ∧ WS w0 w' B V (s.acc 2 σ.it 0) ∧ SlotAt w' b 165 { σ with ln := 3 } rest ∧ Fx wTy true b w w' := by
  have hz' : (σ.tg == 0) = false := beq_eq_false_iff_ne.2 hz
  have ho := Outover hS false false hz' (by rw [hl]; rfl)
  have hcallee : ∀ W, Below w.heap.size w W → Calls Tryz.prog 158 #[.pointer (some ⟨b, 0, none⟩), .pointer (some ⟨B.wb, 0, none⟩)] W fun e w' => e = .returned (.tuple #[]) ∧ WS w0 w' B V (s.acc 2 σ.it 0) ∧ SlotAt w' b 165 (σ) rest ∧ Fx wTy true b W w' := fun W hW =>
    (out_third (h.keep hW) hr (hS.below hW) hi).mono fun e w' ⟨he, hw, hf⟩ => ⟨he, hw, hf.cells _ _ _ _ (hS.below hW) rfl, fr_fx b hf⟩
  have hln : (σ).ln = 2 := hl
  have hso : ((σ).tg == 0) = false := hz'
  have hidx : ∀ W : World, (Instr.index 231 (.agg #[fv (.func 156), fv (.func 157), fv (.func 158)]) (.int .i64 2)).run Tryz.prog W = .ok (fv (.func 158)) W := fun W => by kernel_rfl
  have hp := fun {w : World} (st : ExtW w) => outs_any st.val
  have hc4 := hS.c4
  rw [hl] at hc4
  have HC := Lib.hid hcallee; have H2 := Lib.hid hln; have HSO := Lib.hid hso
  clear h hr hS hg hcallee hl hz hz' hln hso hi
  go_enter Tryz.func57, Tryz.ntmps57
  go_upto_region 2 with (go_at_call 111; refine ho.mono ?_; rintro e w1 ⟨rfl, b1⟩; have x4 := (fun st : ExtW w1 => st.cell ((b1.cell (p := ⟨b, 4, none⟩) (cell_lt hc4)).trans hc4)); have B1 := Lib.hid b1; clear b1 ho hc4)
  refine wp_region_ext_tail 9 (by kernel_rfl) (by kernel_rfl) ?_
  simp only [List.take_succ_cons, List.take_zero, List.drop_succ_cons, List.drop_zero]
  repeat (go_big_quiet_step ((go_at_call 112; with_reducible refine calls_ext (hp _))))
  refine wpQuiet_nil ?_
  rintro W ⟨⟨W2, hW⟩, rfl⟩
  have hb2 := B1.out.trans (hW.mono B1.out.size)
  have hcw := HC.out _ hb2
  have HB2 := Lib.hid hb2
  clear x4 hp hidx hW hb2
  go_upto_region 4 with (go_at_call 158; refine hcw.mono ?_; rintro e w3 ⟨rfl, h3, s3, f3⟩; have y4 := s3.c4; rw [H2.out] at y4; have yf := hfrz s3 4; have H3 := Lib.hid h3; have S3 := Lib.hid s3; have F3 := Lib.hid f3; clear h3 s3 f3 hcw)
  have ho2 := Outover (S3.out.set4 (3)) false true HSO.out rfl
  have h4 := set_take (o := 4) H3.out S3.out rfl hlo (.int .i64 (3))
  have s4 := S3.out.set4 (3)
  have f4 := (((below_fr HB2.out wTy true).fx b).trans F3.out).trans (set_fx wTy true w3 b 4 (.int .i64 (3)))
  have H4 := Lib.hid h4; have S4 := Lib.hid s4; have F4 := Lib.hid f4
  clear h4 s4 f4 H3 S3 F3 y4 yf
  change Code.wp _ _ _ _ (w3.setCell ⟨b, 4, none⟩ (.int .i64 (3)))
  generalize w3.setCell ⟨b, 4, none⟩ (.int .i64 (3)) = W4 at *
  go_wp2_with (go_at_call 111; refine ho2.mono ?_; rintro e w5 ⟨rfl, b5⟩)
  go_ret
  exact ⟨rfl, H4.out.keep b5, S4.out.below b5, F4.out.trans ((below_fr b5 wTy true).fx b)⟩
end Go.Proofs.YthehdcpjlddbpaaGreat

/-
  Slots, spots, runs of a Put, layer 13's examples.
-/
namespace Go.Proofs.YthehdcpjlddbpaaGreat
open Go.RowKit Go.Maps TagPure
set_option linter.unusedVariables false

theorem world12w (b : Int) (hb : 1 ≤ b ∧ b ≤ 12) (w : World) : Calls Tryz.prog 54 #[.int .i64 b] w fun e w' => ∃ B, e = .returned (.pointer (some ⟨B.wb, 0, none⟩)) ∧ WS w w' B (v0 ⟨b, 8, 3, 1, 16⟩) (CS.init [(2, tword b 0)]) := by
  have hn1 : Calls Tryz.prog 62 #[.agg #[.int .i64 b, .int .i64 8, .int .i64 3, .int .i64 1, .int .i64 16]] w fun e w' => ∃ B : WB, e = .returned (.tuple #[.pointer (some ⟨B.wb, 0, none⟩), .int .i64 0]) ∧ WS w w' B (v0 ⟨b, 8, 3, 1, 16⟩) (CS.init [(2, tword b 0)]) :=
    (wnew_ok ⟨b, 8, 3, 1, 16⟩ (by simp [Conf.ok]; omega) w).mono fun e w' ⟨wb, cb, ib, nb, he, g1, g2, g3, g4, g5, g6, g7⟩ => ⟨⟨wb, cb, ib, nb⟩, he, ws_of (Below.refl _ w) g1 g2 g3 g4 g5 g6 g7⟩
  clear hb
  go_enter Tryz.func54, Tryz.ntmps54
  go_wp2_with (go_at_call 62; with_reducible refine hn1.mono ?_; rintro e w1 ⟨B, rfl, h1⟩)
  go_ret
  exact ⟨_, rfl, h1⟩

theorem WS.peekx {w0 w : World} {B : WB} {V : WV} {s : CS} (h : WS w0 w B V s) (a : Int) (ha : (Lit.int .u64 a).wf = true) (st : ExtW w) : Calls Tryz.prog 25 #[.pointer (some ⟨B.cb, 0, none⟩), .int .u64 a] st.val fun e w' => e = .returned (.int .u64 (s.val a)) ∧ st.val = w' :=
  ((h.keep st.below).peek a ha).mono fun e w' ⟨he, hw⟩ => ⟨he, hw.symm⟩
set_option maxRecDepth 10000 in
set_option maxHeartbeats 1000000 in
theorem slot_any {w0 w : World} {B : WB} {V : WV} {s : CS} (h : WS w0 w B V s) (b u k : Int) (hk : (Lit.int .i64 k).wf = true) : Calls Tryz.prog 16 #[.pointer (some ⟨B.wb, 0, none⟩), .agg #[.int .i64 b, .int .i64 u, .int .i64 k]] w
    fun e w' => e = .returned (.tuple #[.int .i64 (tagOf (s.val (tagsA b u)) k), .int .u64 (s.val (itemA b u k))]) ∧ Below w.heap.size w w' := by
  have hB := below_alloc w (.cells #[.int .i64 b, .int .i64 u, .int .i64 k] 42)
  have h1 := h.keep hB
  have hit := fun {W : World} (st : ExtW W) => item_any b u k hk st.val
  have htg := fun {W : World} (st : ExtW W) => tags_any b u st.val
  have hp1 := fun st => h1.peekx (tagsA b u) (tagsA_wf b u) st
  have hp2 := fun st => h1.peekx (itemA b u k) (itemA_wf b u k) st
  have hwf := wf_bd (h.own.wf (tagsA b u))
  have hto := fun {W : World} (st : ExtW W) => tag_any (s.val (tagsA b u)) k st.val hwf.1 hwf.2
  have z := box3 w b u k 42
  have x0 := fun st : ExtW (w.alloc (.cells #[.int .i64 b, .int .i64 u, .int .i64 k] 42)) => st.cell (z 0)
  have x1 := fun st : ExtW (w.alloc (.cells #[.int .i64 b, .int .i64 u, .int .i64 k] 42)) => st.cell (z 1)
  have x2 := fun st : ExtW (w.alloc (.cells #[.int .i64 b, .int .i64 u, .int .i64 k] 42)) => st.cell (z 2)
  have x3 := fun st : ExtW (w.alloc (.cells #[.int .i64 b, .int .i64 u, .int .i64 k] 42)) => st.cell h1.c0
  have HB := Lib.hid hB
  clear h h1 hk hwf z hB
  go_enter Tryz.func16, Tryz.ntmps16
  go_wp2_with fail
  refine wp_region_ext (by kernel_rfl) (by kernel_rfl) ?_
  repeat (go_big_quiet_step (first
    | (go_at_call 56; with_reducible refine calls_ext (htg _))
    | (go_at_call 55; with_reducible refine calls_ext (hit _))
    | (go_at_call 25; with_reducible refine calls_ext_same (hp1 _))
    | (go_at_call 25; with_reducible refine calls_ext_same (hp2 _))
    | (go_at_call 68; with_reducible refine calls_ext (hto _))))
  refine wpQuiet_nil ?_
  rintro W ⟨⟨W2, hW⟩, rfl⟩
  clear x0 x1 x2 x3
  go_wp2
  go_ret2
  exact ⟨rfl, bnext HB.out hW⟩
theorem spot21 (k : Nat) (hk : k < 4) (w : World) : Calls Tryz.prog 13 #[.int .i64 2, .int .i64 1, .int .i64 k] w fun e w' => e = .returned (.agg #[.int .i64 2, .int .i64 1, .int .i64 k]) ∧ Below w.heap.size w w' := by
  have hsz := fun w => size_any 2 w
  have e0 : tsize 2 = 4 := by decide
  simp only [e0] at hsz
  have e1 : (k : Int) % 4 = k := by omega
  clear e0 hk
  go_enter Tryz.func13, Tryz.ntmps13
  go_wp2_with (go_at_call 66; refine (hsz _).mono ?_; rintro e w1 ⟨rfl, hw⟩; obtain rfl := hw.symm)
  refine bodyPost_ret (v := .agg #[.int .i64 2, .int .i64 1, .int .i64 k]) (by simp [results, Tryz.results13, go_sem]) rfl ⟨rfl, ?_⟩
  exact below_alloc' _ _

def pst (s : CS) (tgA it at_ g r : Int) : Nat → CS
  | 0 => s
  | 1 => s.acc 2 it r
  | 2 => (s.acc 2 it r).acc 1 tgA ((s.acc 2 it r).val tgA)
  | _ => ((s.acc 2 it r).acc 1 tgA ((s.acc 2 it r).val tgA)).acc 2 tgA (withOf ((s.acc 2 it r).val tgA) at_ g)
def psl (s : CS) (tgA it at_ r : Int) : Nat → SL
  | 0 => ⟨tgA, it, at_, 0, 0⟩
  | 1 => ⟨tgA, it, at_, 0, 1⟩
  | 2 => ⟨tgA, it, at_, (s.acc 2 it r).val tgA, 2⟩
  | _ => ⟨tgA, it, at_, (s.acc 2 it r).val tgA, 3⟩
def ost (s : CS) (tgA it at_ : Int) : Nat → CS
  | 0 => s
  | 1 => s.acc 1 tgA (s.val tgA)
  | 2 => (s.acc 1 tgA (s.val tgA)).acc 2 tgA (withOf (s.val tgA) at_ 0)
  | _ => ((s.acc 1 tgA (s.val tgA)).acc 2 tgA (withOf (s.val tgA) at_ 0)).acc 2 it 0
def osl (s : CS) (tgA it at_ : Int) : Nat → SL
  | 0 => ⟨tgA, it, at_, 0, 0⟩
  | 1 => ⟨tgA, it, at_, s.val tgA, 1⟩
  | 2 => ⟨tgA, it, at_, s.val tgA, 2⟩
  | _ => ⟨tgA, it, at_, s.val tgA, 3⟩
section
variable {w0 w : World} {B : WB} {V : WV} {s : CS} {b : Nat} {tgA it at_ g r : Int} {m : Nat} (hm : s.n ≤ m ∧ s.cnt ≤ m) (hl : m + 3 < lim) (hlo : w0.heap.size ≤ b) (hz : tgA ≠ 0) (hg : (Lit.int .u64 tgA).wf = true) (hi : (Lit.int .u64 it).wf = true)
include hm
theorem pst_le (n : Nat) (hn : n ≤ 3) : (pst s tgA it at_ g r n).n ≤ m + n ∧ (pst s tgA it at_ g r n).cnt ≤ m + n := by
  match n, hn with
  | 0, _ => exact hm
  | 1, _ => exact room_acc m hm
  | 2, _ => exact room_acc _ (room_acc m hm)
  | 3, _ => exact room_acc _ (room_acc _ (room_acc m hm))
theorem ost_le (n : Nat) (hn : n ≤ 3) : (ost s tgA it at_ n).n ≤ m + n ∧ (ost s tgA it at_ n).cnt ≤ m + n := by
  match n, hn with
  | 0, _ => exact hm
  | 1, _ => exact room_acc m hm
  | 2, _ => exact room_acc _ (room_acc m hm)
  | 3, _ => exact room_acc _ (room_acc _ (room_acc m hm))
include hl hlo hz hg hi
theorem put_step (hrr : 0 ≤ r ∧ r < 9223372036854775808) (n : Nat) (hn : n < 3) (h : WS w0 w B V (pst s tgA it at_ g r n)) (hS : SlotAt w b 167 (psl s tgA it at_ r n) [.int .i64 g, .int .i64 r]) :
    Calls Tryz.prog 228 #[.pointer (some ⟨b, 0, none⟩), .pointer (some ⟨B.wb, 0, none⟩)] w fun e w' => (∃ o, e = .returned (.bool o)) ∧ WS w0 w' B V (pst s tgA it at_ g r (n + 1)) ∧ SlotAt w' b 167 (psl s tgA it at_ r (n + 1)) [.int .i64 g, .int .i64 r] ∧ Fx wTy true b w w' := by
  have hle := pst_le (tgA := tgA) (it := it) (at_ := at_) (g := g) (r := r) hm n (by omega)
  have hr : (pst s tgA it at_ g r n).room := CS.room_of (m + n) hle (by omega)
  match n, hn with
  | 0, _ => exact (put_step0 h hr hlo hS hz hg rfl hi hrr).mono fun e w' ⟨h1, h2⟩ => ⟨⟨_, h1⟩, h2⟩
  | 1, _ => exact (put_step1 h hr hlo hS hz hg rfl).mono fun e w' ⟨h1, h2⟩ => ⟨⟨_, h1⟩, h2⟩
  | 2, _ =>
    have hx : 0 ≤ (psl s tgA it at_ r 2).x ∧ (psl s tgA it at_ r 2).x < 18446744073709551616 := by
      have := wf_bd (h.own.wf tgA)
      simp only [pst, CS.acc_self] at this
      exact this
    exact (put_step2 h hr hlo hS hz hg rfl hx).mono fun e w' ⟨h1, h2⟩ => ⟨⟨_, h1⟩, h2⟩
theorem out_step (n : Nat) (hn : n < 3) (h : WS w0 w B V (ost s tgA it at_ n)) (hS : SlotAt w b 165 (osl s tgA it at_ n) []) :
    Calls Tryz.prog 57 #[.pointer (some ⟨b, 0, none⟩), .pointer (some ⟨B.wb, 0, none⟩)] w fun e w' => (∃ o, e = .returned (.bool o)) ∧ WS w0 w' B V (ost s tgA it at_ (n + 1)) ∧ SlotAt w' b 165 (osl s tgA it at_ (n + 1)) [] ∧ Fx wTy true b w w' := by
  have hle := ost_le (tgA := tgA) (it := it) (at_ := at_) hm n (by omega)
  have hr : (ost s tgA it at_ n).room := CS.room_of (m + n) hle (by omega)
  match n, hn with
  | 0, _ => exact (out_step0 h hr hlo hS hz hg rfl).mono fun e w' ⟨h1, h2⟩ => ⟨⟨_, h1⟩, h2⟩
  | 1, _ =>
    have hx : 0 ≤ (osl s tgA it at_ 1).x ∧ (osl s tgA it at_ 1).x < 18446744073709551616 := by
      have := wf_bd (h.own.wf tgA)
      simp only [ost, CS.acc_self] at this
      exact this
    exact (out_step1 h hr hlo hS hz hg rfl hx).mono fun e w' ⟨h1, h2⟩ => ⟨⟨_, h1⟩, h2⟩
  | 2, _ => exact (out_step2 h hr hlo hS hz hg rfl hi).mono fun e w' ⟨h1, h2⟩ => ⟨⟨true, h1⟩, h2⟩
end
end Go.Proofs.YthehdcpjlddbpaaGreat

/-
  A Put by itself; layer 13's examples.
-/
namespace Go.Proofs.YthehdcpjlddbpaaGreat
open Go.RowKit Go.Maps TagPure
set_option linter.unusedVariables false

theorem psl_tg (s : CS) (tgA it at_ r : Int) (n : Nat) : (psl s tgA it at_ r n).tg = tgA := by unfold psl; split <;> rfl
theorem psl_ln (s : CS) (tgA it at_ r : Int) (n : Nat) (hn : n ≤ 3) : (psl s tgA it at_ r n).ln = n := by
  match n, hn with
  | 0, _ | 1, _ | 2, _ | 3, _ => rfl
theorem osl_tg (s : CS) (tgA it at_ : Int) (n : Nat) : (osl s tgA it at_ n).tg = tgA := by unfold osl; split <;> rfl
theorem osl_ln (s : CS) (tgA it at_ : Int) (n : Nat) (hn : n ≤ 3) : (osl s tgA it at_ n).ln = n := by
  match n, hn with
  | 0, _ | 1, _ | 2, _ | 3, _ => rfl
theorem put_over {w : World} {b : Nat} {s : CS} {tgA it at_ r : Int} {rest : List Value} (n : Nat) (hn : n ≤ 3) (hz : tgA ≠ 0) (hS : SlotAt w b 167 (psl s tgA it at_ r n) rest) : Calls Tryz.prog 227 #[.pointer (some ⟨b, 0, none⟩)] w fun e w' => e = .returned (.bool ((n : Int) == 3)) ∧ Below w.heap.size w w' := by
  have := Putover hS false ((n : Int) == 3) (by rw [psl_tg]; exact beq_eq_false_iff_ne.2 hz) (by rw [psl_ln _ _ _ _ _ n hn])
  simpa only [Bool.false_or] using this
theorem out_over {w : World} {b : Nat} {s : CS} {tgA it at_ : Int} {rest : List Value} (n : Nat) (hn : n ≤ 3) (hz : tgA ≠ 0) (hS : SlotAt w b 165 (osl s tgA it at_ n) rest) : Calls Tryz.prog 111 #[.pointer (some ⟨b, 0, none⟩)] w fun e w' => e = .returned (.bool ((n : Int) == 3)) ∧ Below w.heap.size w w' := by
  have := Outover hS false ((n : Int) == 3) (by rw [osl_tg]; exact beq_eq_false_iff_ne.2 hz) (by rw [osl_ln _ _ _ _ n hn])
  simpa only [Bool.false_or] using this
theorem gone_any {w : World} {b : Nat} {s : CS} {tgA it at_ : Int} {rest : List Value} (n : Nat) (hn : n ≤ 3) (hz : tgA ≠ 0) (hS : SlotAt w b 165 (osl s tgA it at_ n) rest) : Calls Tryz.prog 58 #[.pointer (some ⟨b, 0, none⟩)] w fun e w' => e = .returned (.bool (decide ((1 : Int) < n))) ∧ w' = w := by
  have c0 := hS.c0; have c4 := hS.c4
  rw [osl_tg] at c0
  rw [osl_ln _ _ _ _ n hn] at c4
  have hz' : (tgA != 0) = true := bne_iff_ne.2 hz
  clear hS hz hn
  go_enter Tryz.func58, Tryz.ntmps58
  go_wp2
  go_ret
  exact ⟨rfl, rfl⟩
set_option maxRecDepth 10000 in
set_option maxHeartbeats 1000000 in
theorem run_put {w0 w : World} {B : WB} {V : WV} {s : CS} {b : Nat} {tgA it at_ g r : Int} {m : Nat} (hm : s.n ≤ m ∧ s.cnt ≤ m) (hl : m + 3 < lim) (hlo : w0.heap.size ≤ b) (hz : tgA ≠ 0) (hg : (Lit.int .u64 tgA).wf = true) (hi : (Lit.int .u64 it).wf = true) (hrr : 0 ≤ r ∧ r < 9223372036854775808)
    (h : WS w0 w B V s) (hS : SlotAt w b 167 ⟨tgA, it, at_, 0, 0⟩ [.int .i64 g, .int .i64 r]) :
    Calls Tryz.prog 20 #[.pointer (some ⟨B.wb, 0, none⟩), .iface 56 (.pointer (some ⟨b, 0, none⟩)), .int .i64 9] w fun e w' => e = .returned (.int .i64 3) ∧ WS w0 w' B V (pst s tgA it at_ g r 3) ∧ SlotAt w' b 167 (psl s tgA it at_ r 3) [.int .i64 g, .int .i64 r] ∧ Fx wTy true b w w' := by
  have hst := fun (n : Nat) (hn : n < 3) (W : World) (h1 : WS w0 W B V (pst s tgA it at_ g r n)) h2 => put_step hm hl hlo hz hg hi hrr n hn h1 h2
  have H := Lib.hid h; have HS := Lib.hid hS; have HST := Lib.hid hst; have HZ := Lib.hid hz
  clear h hS hst hg hi hrr hm hl hz
  go_enter Tryz.func20, Tryz.ntmps20
  go_wp2
  go_loopw [7] (fun i wr => ∃ k : Nat, k ≤ 3 ∧ i = .int .i64 k ∧ WS w0 wr B V (pst s tgA it at_ g r k) ∧ SlotAt wr b 167 (psl s tgA it at_ r k) [.int .i64 g, .int .i64 r] ∧ Fx wTy true b w wr) (fun i _ => 3 - (intOf i).toNat)
  case atStart => exact ⟨0, by omega, rfl, H.out, HS.out, (below_fr (Below.refl _ w) wTy true).fx b⟩
  case round =>
    obtain ⟨k, hk, rfl, h1, h2, h3⟩ := hrel
    have hov := put_over k hk HZ.out h2
    by_cases hlt : k < 3
    · have hk9 : (k : Int) < 9 := by omega
      have hk3 : ((k : Int) == 3) = false := by rw [beq_eq_false_iff_ne]; omega
      rw [hk3] at hov
      have hcall := fun (W : World) (hb : Below wr.heap.size wr W) => HST.out k hlt W (h1.keep hb) (h2.below hb)
      have HC := Lib.hid hcall; have H3 := Lib.hid h3
      clear h1 h2 h3 hcall hk3
      go_wp2_with (first
        | (go_at_call 227; refine hov.mono ?_; rintro e w2 ⟨rfl, b2⟩; have hc := HC.out _ b2; have B2 := Lib.hid b2; clear b2 hov)
        | (go_at_call 228; refine hc.mono ?_; rintro e w3 ⟨⟨o, rfl⟩, g1, g2, g3⟩; have G1 := Lib.hid g1; have G2 := Lib.hid g2; have G3 := Lib.hid g3; clear g1 g2 g3 hc))
      exact ⟨⟨k + 1, by omega, by go_num, G1.out, G2.out, (H3.out.trans ((below_fr B2.out wTy true).fx b)).trans G3.out⟩, by simp [intOf]; omega⟩
    · obtain rfl : k = 3 := by omega
      have H1 := Lib.hid h1; have H2 := Lib.hid h2; have H3 := Lib.hid h3
      rw [show (((3 : Nat) : Int) == 3) = true from rfl] at hov
      clear h1 h2 h3
      go_wp2_with (go_at_call 227; refine hov.mono ?_; rintro e w2 ⟨rfl, b2⟩)
      go_ret
      exact ⟨rfl, H1.out.keep b2, H2.out.below b2, H3.out.trans ((below_fr b2 wTy true).fx b)⟩
end Go.Proofs.YthehdcpjlddbpaaGreat

/-
  Layer 13's examples.
-/
namespace Go.Proofs.YthehdcpjlddbpaaGreat
open Go.RowKit Go.Maps TagPure
set_option linter.unusedVariables false

theorem ex_it (n : Nat) (hn : n ≤ 3) (h3 : n = 3 ∨ n = 1) : True := trivial
def exs : CS := pst (CS.init [(2, tword 1 0)]) 4120 4123 2 7 5 3
theorem exs_le : exs.n ≤ 10 ∧ exs.cnt ≤ 10 := ⟨by decide, by decide⟩
theorem exs_it : exs.val 4123 = 5 := by decide
theorem exs_tg : exs.val 4120 = 458752 := by decide
def exo : CS := ost exs 4120 4123 2 3
theorem exo_it : exo.val 4123 = 0 := by decide
theorem exo_tg : exo.val 4120 = 0 := by decide
theorem spot3 (w : World) (q : Nat) (a b c : Value) (T : TypeId) (h : w.heap[q]? = some (.cells #[a, b, c] T (0, 0))) : w.cell? ⟨q, 0, none⟩ = some a ∧ w.cell? ⟨q, 1, none⟩ = some b ∧ w.cell? ⟨q, 2, none⟩ = some c := ⟨hcell h 0, hcell h 1, hcell h 2⟩
set_option maxRecDepth 10000 in
set_option maxHeartbeats 2000000 in
theorem lives13 (w : World) : Calls Tryz.prog 11 #[] w fun e w' => e = .returned (.bool true) ∧ Below w.heap.size w w' := by
  have et : tagsA 1 1 = 4120 := by decide
  have ei : itemA 1 1 2 = 4123 := by decide
  have es : sof 1 1 2 = ⟨4120, 4123, 2, 0, 0⟩ := by unfold sof; rw [et, ei]; rfl
  have htags := fun {W : World} (st : ExtW W) => tags_any 1 1 st.val
  have hitem := fun {W : World} (st : ExtW W) => item_any 1 1 2 (by decide) st.val
  rw [et] at htags
  rw [ei] at hitem
  have hnp := fun W => newput_in 1 1 2 7 5 (by decide) (by decide) (by decide) W
  have hno := fun W => newout_any 1 1 2 (by decide) W
  rw [es] at hnp hno
  have e4123 := exs_it; have e4120 := exs_tg
  clear et ei es
  go_enter Tryz.func11, Tryz.ntmps11
  go_upto_region 5 with (first
    | (go_at_call 54; refine (world12w 1 (by decide) w).mono ?_; rintro e w1 ⟨B, rfl, h1⟩; have H1 := Lib.hid h1; clear h1))
  have hq0 := heap_alloc_new w1 (.cells #[.int .i64 1, .int .i64 1, .int .i64 2] 42)
  have hb0 := below_alloc w1 (.cells #[.int .i64 1, .int .i64 1, .int .i64 2] 42)
  have H2 := Lib.hid (H1.out.keep hb0)
  have HW1 : Hid (w.heap.size ≤ w1.heap.size) := H1.out.below.size
  generalize w1.alloc (.cells #[.int .i64 1, .int .i64 1, .int .i64 2] 42) = w2 at *
  generalize w1.heap.size = q at *
  have c0 := H2.out.c0
  obtain ⟨c1, c2, c3⟩ := spot3 _ _ _ _ _ _ hq0
  have HQ := Lib.hid hq0
  clear hq0 hb0 H1
  go_upto_region 6 with (first
    | (go_at_call 19; refine (hnp _).mono ?_; rintro e w3 ⟨b, rfl, p3, l3, b3⟩; have hq3 := (b3.block _ (Array.getElem?_eq_some_iff.1 HQ.out).1).trans HQ.out; have H3 := Lib.hid (H2.out.keep b3); have HL := Lib.hid (show w.heap.size ≤ b from Nat.le_trans H2.out.below.size l3); have HNE := Lib.hid (show q ≠ b from Nat.ne_of_lt (Nat.lt_of_lt_of_le (Array.getElem?_eq_some_iff.1 HQ.out).1 l3)); have P3 := Lib.hid p3; clear p3 l3 b3)
    | (go_at_call 20; refine (run_put (m := 1) ⟨by decide, by decide⟩ (by unfold lim; decide) HL.out (by decide) (by decide) (by decide) (by decide) H3.out P3.out).mono ?_; rintro e w4 ⟨rfl, h4, p4, f4⟩; have hq4 := f4.cells _ _ _ _ hq3 rfl HNE.out; have H4 : Hid (WS w w4 B (v0 ⟨1, 8, 3, 1, 16⟩) exs) := h4; have HQ4 := Lib.hid hq4; clear h4 p4 f4 hq4 hq3))
  clear c0 c1 c2 c3 H2 H3 P3 HQ hnp
  have hp1 := fun st => H4.out.peekx 4123 (by decide) st
  have hp2 := fun st => H4.out.peekx 4120 (by decide) st
  rw [e4123] at hp1
  rw [e4120] at hp2
  have x0 := fun st : ExtW w4 => st.cell H4.out.c0
  have x1 := fun st : ExtW w4 => st.cell (spot3 _ _ _ _ _ _ HQ4.out).1
  have x2 := fun st : ExtW w4 => st.cell (spot3 _ _ _ _ _ _ HQ4.out).2.1
  have x3 := fun st : ExtW w4 => st.cell (spot3 _ _ _ _ _ _ HQ4.out).2.2
  refine wp_region_ext (by kernel_rfl) (by kernel_rfl) ?_
  repeat (go_big_quiet_step (first
    | (go_at_call 56; with_reducible refine calls_ext (htags _))
    | (go_at_call 55; with_reducible refine calls_ext (hitem _))
    | (go_at_call 25; with_reducible refine calls_ext_same (hp1 _))
    | (go_at_call 25; with_reducible refine calls_ext_same (hp2 _))))
  refine wpQuiet_nil ?_
  rintro W ⟨⟨W5, hW⟩, rfl⟩
  have H5 := Lib.hid (H4.out.keep hW)
  have hq5 := (hW.block _ (Array.getElem?_eq_some_iff.1 HQ4.out).1).trans HQ4.out
  obtain ⟨c1, c2, c3⟩ := spot3 _ _ _ _ _ _ hq5
  have HQ5 := Lib.hid hq5
  clear x0 x1 x2 x3 hp1 hp2 hW hq5 H4 HQ4
  go_upto_region 9 with (fail)
  go_upto_region 10 with (first
    | (go_at_call 18; refine (hno _).mono ?_; rintro e w6 ⟨b6, rfl, p6, l6, bb6⟩; have hq6 := (bb6.block _ (Array.getElem?_eq_some_iff.1 HQ5.out).1).trans HQ5.out; have H6 := Lib.hid (H5.out.keep bb6); have HL6 := Lib.hid (show w.heap.size ≤ b6 from Nat.le_trans H5.out.below.size l6); have HNE6 := Lib.hid (show q ≠ b6 from Nat.ne_of_lt (Nat.lt_of_lt_of_le (Array.getElem?_eq_some_iff.1 HQ5.out).1 l6)); have P6 := Lib.hid p6; have HQ6 := Lib.hid hq6; clear p6 l6 bb6 hq6)
    | (go_at_call 57; refine (out_step (m := 10) exs_le (by unfold lim; decide) HL6.out (by decide) (by decide) (by decide) 0 (by decide) H6.out P6.out).mono ?_; rintro e w7 ⟨⟨o, rfl⟩, h7, p7, f7⟩; have hq7 := f7.cells _ _ _ _ HQ6.out rfl HNE6.out; have H7 := Lib.hid h7; have P7 := Lib.hid p7; have HQ7 := Lib.hid hq7; have hgo := gone_any 1 (by decide) (by decide) p7; clear h7 p7 f7 hq7))
  clear c1 c2 c3
  go_upto_region 12 with (first
    | (go_at_call 58; refine hgo.mono ?_; rintro e w' ⟨rfl, hw⟩; obtain rfl := hw.symm; clear hgo)
    | (go_at_call 57; refine (out_step (m := 10) exs_le (by unfold lim; decide) HL6.out (by decide) (by decide) (by decide) 1 (by decide) H7.out P7.out).mono ?_; rintro e w8 ⟨⟨o2, rfl⟩, h8, p8, f8⟩; have hq8 := f8.cells _ _ _ _ HQ7.out rfl HNE6.out; have H8 := Lib.hid h8; have P8 := Lib.hid p8; have HQ8 := Lib.hid hq8; clear h8 p8 f8 hq8))
  have x0 := fun st : ExtW w8 => st.cell H8.out.c0
  have hg2 : ∀ st : ExtW w8, Calls Tryz.prog 58 #[.pointer (some ⟨b6, 0, none⟩)] st.val fun e w' => e = .returned (.bool (decide ((1 : Int) < (2 : Nat)))) ∧ st.val = w' := fun st => (gone_any 2 (by decide) (by decide) (P8.out.below st.below)).mono fun e w' ⟨he, hw⟩ => ⟨he, hw.symm⟩
  refine wp_region_segs [9] (by kernel_rfl) (by kernel_rfl) (by kernel_rfl) ?_
  simp only [Segs, List.take_succ_cons, List.take_zero, List.drop_succ_cons, List.drop_zero]
  repeat (go_big_quiet_step ((go_at_call 58; with_reducible refine calls_ext_same (hg2 _))))
  refine wpQuiet_nil ?_
  rintro W ⟨⟨W9, hW⟩, rfl⟩
  clear x0 hg2
  refine seg_call rfl (by kernel_rfl) 57 #[.pointer (some ⟨b6, 0, none⟩), .pointer (some ⟨B.wb, 0, none⟩)] (by kernel_rfl) ?_
  refine (out_step2 (H8.out.keep hW) (CS.room_of (10 + 2) (ost_le exs_le 2 (by decide)) (by unfold lim; decide)) HL6.out (P8.out.below hW) (by decide) (by decide) rfl (by decide)).mono ?_
  rintro e w10 ⟨rfl, h10, p10, f10⟩
  have h10 : WS w w10 B (v0 ⟨1, 8, 3, 1, 16⟩) exo := h10
  have hq10 := f10.cells _ _ _ _ ((hW.block _ (Array.getElem?_eq_some_iff.1 HQ8.out).1).trans HQ8.out) rfl HNE6.out
  refine ⟨_, rfl, ?_⟩
  simp only [List.getElem_toArray, List.getElem_cons_succ, List.getElem_cons_zero]
  go_frame
  have H10 := Lib.hid h10
  have hp1 := fun st => h10.peekx 4123 (by decide) st
  have hp2 := fun st => h10.peekx 4120 (by decide) st
  rw [exo_it] at hp1
  rw [exo_tg] at hp2
  have x0 := fun st : ExtW w10 => st.cell h10.c0
  have x1 := fun st : ExtW w10 => st.cell (spot3 _ _ _ _ _ _ hq10).1
  have x2 := fun st : ExtW w10 => st.cell (spot3 _ _ _ _ _ _ hq10).2.1
  have x3 := fun st : ExtW w10 => st.cell (spot3 _ _ _ _ _ _ hq10).2.2
  clear h10 hq10 p10 f10 hW
  repeat (go_big_quiet_step (first
    | (go_at_call 56; with_reducible refine calls_ext (htags _))
    | (go_at_call 55; with_reducible refine calls_ext (hitem _))
    | (go_at_call 25; with_reducible refine calls_ext_same (hp1 _))
    | (go_at_call 25; with_reducible refine calls_ext_same (hp2 _))))
  refine wpQuiet_nil ?_
  rintro W12 ⟨⟨W11, hW11⟩, rfl⟩
  clear x0 x1 x2 x3 hp1 hp2
  go_wp2
  go_ret
  exact ⟨rfl, (H10.out.keep hW11).below⟩
end Go.Proofs.YthehdcpjlddbpaaGreat

/-
  Spots of small tables: the n-th one; what a Put, and an Out, leave of all of them.
-/
namespace Go.Proofs.YthehdcpjlddbpaaGreat
open Go.RowKit Go.Maps TagPure
set_option linter.unusedVariables false

theorem four {b : Int} (h : 1 ≤ b ∧ b ≤ 4) : (b = 1 ∧ tsize b = 2) ∨ (b = 2 ∧ tsize b = 4) ∨ (b = 3 ∧ tsize b = 8) ∨ (b = 4 ∧ tsize b = 16) := by
  rcases (show b = 1 ∨ b = 2 ∨ b = 3 ∨ b = 4 by omega) with rfl | rfl | rfl | rfl
  · exact .inl ⟨rfl, by decide⟩
  · exact .inr (.inl ⟨rfl, by decide⟩)
  · exact .inr (.inr (.inl ⟨rfl, by decide⟩))
  · exact .inr (.inr (.inr ⟨rfl, by decide⟩))
theorem as_one {b : Int} (h : 1 ≤ b ∧ b ≤ 4) : asOld (tword b 0) = b ∧ asNow (tword b 0) = 0 ∧ spots (tword b 0) = 4 * tsize b := by
  rcases (show b = 1 ∨ b = 2 ∨ b = 3 ∨ b = 4 by omega) with rfl | rfl | rfl | rfl <;> decide
theorem tword_wf4 {b : Int} (h : 1 ≤ b ∧ b ≤ 4) : (Lit.int .u64 (tword b 0)).wf = true := by
  rcases (show b = 1 ∨ b = 2 ∨ b = 3 ∨ b = 4 by omega) with rfl | rfl | rfl | rfl <;> decide
set_option maxHeartbeats 1000000 in
theorem at_small (b k : Int) (hb : 1 ≤ b ∧ b ≤ 4) (hk : 0 ≤ k ∧ k < 4 * tsize b) (w : World) : Calls Tryz.prog 17 #[.int .u64 (tword b 0), .int .i64 k] w fun e w' => e = .returned (.agg #[.int .i64 b, .int .i64 (k / 4), .int .i64 (k % 4)]) ∧ Below w.heap.size w w' := by
  have has := fun w => as_any (tword b 0) (tword_wf4 hb) w
  have hsp := fun w => spots_any (tword b 0) (tword_wf4 hb) w
  have hsz := fun w => size_any b w
  obtain ⟨e1, e2, e3⟩ := as_one hb
  rw [e1, e2] at has
  rw [e3] at hsp
  have hS : 2 ≤ tsize b ∧ tsize b ≤ 16 := by rcases four hb with ⟨_, h⟩ | ⟨_, h⟩ | ⟨_, h⟩ | ⟨_, h⟩ <;> omega
  generalize tsize b = S at *
  obtain ⟨A, hA⟩ : ∃ A, A = 4 * S := ⟨_, rfl⟩
  have f0 : wrap64 (4 * S) = A := by rw [hA]; exact IntWalk.wrap64_in _ (by omega)
  rw [← hA] at hsp
  have hA2 : 8 ≤ A ∧ A ≤ 64 := by omega
  have hk2 : 0 ≤ k ∧ k < A := by omega
  have f1 : k.tmod A = k := Int.tmod_eq_of_lt hk2.1 hk2.2
  have f2 : wrap64 (k + A) = k + A := IntWalk.wrap64_in _ (by omega)
  have f3 : (k + A).tmod A = k := by rw [Int.tmod_eq_emod_of_nonneg (by omega), Int.add_emod_right, Int.emod_eq_of_lt hk2.1 hk2.2]
  have f4 : (A == 0) = false := beq_eq_false_iff_ne.2 (by omega)
  have f4b : ¬ A = 0 := by omega
  have f5 : decide (A ≤ k) = false := decide_eq_false (by omega)
  obtain ⟨Q, hQ⟩ : ∃ Q, Q = k / 4 := ⟨_, rfl⟩
  obtain ⟨R, hR⟩ : ∃ R, R = k % 4 := ⟨_, rfl⟩
  have f6 : k.tdiv 4 = Q := by rw [hQ]; exact Int.tdiv_eq_ediv_of_nonneg hk2.1
  have f7 : k.tmod 4 = R := by rw [hR]; exact Int.tmod_eq_emod_of_nonneg hk2.1
  have f8 : wrap64 Q = Q := IntWalk.wrap64_in _ (by omega)
  have f9 : wrap64 k = k := IntWalk.wrap64_in _ (by omega)
  have f10 : wrap64 R = R := IntWalk.wrap64_in _ (by omega)
  rw [← hQ, ← hR]
  clear hA hk hk2 hA2 hS hQ hR e1 e2 e3 hb
  go_enter Tryz.func17, Tryz.ntmps17
  go_wp2_with (first
    | (go_at_call 67; refine (has _).mono ?_; rintro e w1 ⟨rfl, hw⟩; obtain rfl := hw.symm; clear has)
    | (go_at_call 14; refine (hsp _).mono ?_; rintro e w1 ⟨rfl, hw⟩; obtain rfl := hw.symm; clear hsp)
    | (go_at_call 66; refine (hsz _).mono ?_; rintro e w1 ⟨rfl, hw⟩; obtain rfl := hw.symm; clear hsz))
  refine bodyPost_ret (v := .agg #[.int .i64 b, .int .i64 Q, .int .i64 R]) (by simp [results, Tryz.results17, go_sem]) rfl ⟨rfl, ?_⟩
  exact below_alloc' _ _
set_option maxHeartbeats 1000000 in
theorem spot_in (b u s U R : Int) (hb : 1 ≤ b ∧ b ≤ 4) (hu : 0 ≤ u ∧ u < 256) (hs : 0 ≤ s ∧ s < 256) (hU : u % tsize b = U) (hR : s % 4 = R) (w : World) : Calls Tryz.prog 13 #[.int .i64 b, .int .i64 u, .int .i64 s] w fun e w' => e = .returned (.agg #[.int .i64 b, .int .i64 U, .int .i64 R]) ∧ Below w.heap.size w w' := by
  have hsz := fun w => size_any b w
  have f7 : s.tmod 4 = R := by rw [← hR]; exact Int.tmod_eq_emod_of_nonneg hs.1
  have f8 : wrap64 R = R := IntWalk.wrap64_in _ (by omega)
  have f9 : wrap64 U = U := by
    refine IntWalk.wrap64_in _ ?_
    rw [← hU]
    rcases four hb with ⟨_, h⟩ | ⟨_, h⟩ | ⟨_, h⟩ | ⟨_, h⟩ <;> rw [h] <;> omega
  have f6 : u.tmod (tsize b) = U := by rw [← hU]; exact Int.tmod_eq_emod_of_nonneg hu.1
  rcases four hb with ⟨rfl, h⟩ | ⟨rfl, h⟩ | ⟨rfl, h⟩ | ⟨rfl, h⟩
  all_goals
    rw [h] at f6
    simp only [h] at hsz
    clear h hb hu hs hU hR
    go_enter Tryz.func13, Tryz.ntmps13
    go_wp2_with (go_at_call 66; refine (hsz _).mono ?_; rintro e w1 ⟨rfl, hw⟩; obtain rfl := hw.symm)
    refine bodyPost_ret (v := .agg #[_, .int .i64 U, .int .i64 R]) (by simp [results, Tryz.results13, go_sem]) rfl ⟨rfl, ?_⟩
    exact below_alloc' _ _
set_option maxRecDepth 10000 in
set_option maxHeartbeats 1000000 in
theorem run_out {w0 w : World} {B : WB} {V : WV} {s : CS} {b : Nat} {tgA it at_ : Int} {m : Nat} (hm : s.n ≤ m ∧ s.cnt ≤ m) (hl : m + 3 < lim) (hlo : w0.heap.size ≤ b) (hz : tgA ≠ 0) (hg : (Lit.int .u64 tgA).wf = true) (hi : (Lit.int .u64 it).wf = true)
    (h : WS w0 w B V s) (hS : SlotAt w b 165 ⟨tgA, it, at_, 0, 0⟩ []) :
    Calls Tryz.prog 20 #[.pointer (some ⟨B.wb, 0, none⟩), .iface 52 (.pointer (some ⟨b, 0, none⟩)), .int .i64 9] w fun e w' => e = .returned (.int .i64 3) ∧ WS w0 w' B V (ost s tgA it at_ 3) ∧ SlotAt w' b 165 (osl s tgA it at_ 3) [] ∧ Fx wTy true b w w' := by
  have hst := fun (n : Nat) (hn : n < 3) (W : World) (h1 : WS w0 W B V (ost s tgA it at_ n)) h2 => out_step hm hl hlo hz hg hi n hn h1 h2
  have H := Lib.hid h; have HS := Lib.hid hS; have HST := Lib.hid hst; have HZ := Lib.hid hz
  clear h hS hst hg hi hm hl hz
  go_enter Tryz.func20, Tryz.ntmps20
  go_wp2
  go_loopw [7] (fun i wr => ∃ k : Nat, k ≤ 3 ∧ i = .int .i64 k ∧ WS w0 wr B V (ost s tgA it at_ k) ∧ SlotAt wr b 165 (osl s tgA it at_ k) [] ∧ Fx wTy true b w wr) (fun i _ => 3 - (intOf i).toNat)
  case atStart => exact ⟨0, by omega, rfl, H.out, HS.out, (below_fr (Below.refl _ w) wTy true).fx b⟩
  case round =>
    obtain ⟨k, hk, rfl, h1, h2, h3⟩ := hrel
    have hov := out_over k hk HZ.out h2
    by_cases hlt : k < 3
    · have hk9 : (k : Int) < 9 := by omega
      have hk3 : ((k : Int) == 3) = false := by rw [beq_eq_false_iff_ne]; omega
      rw [hk3] at hov
      have hcall := fun (W : World) (hb : Below wr.heap.size wr W) => HST.out k hlt W (h1.keep hb) (h2.below hb)
      have HC := Lib.hid hcall; have H3 := Lib.hid h3
      clear h1 h2 h3 hcall hk3
      go_wp2_with (first
        | (go_at_call 111; refine hov.mono ?_; rintro e w2 ⟨rfl, b2⟩; have hc := HC.out _ b2; have B2 := Lib.hid b2; clear b2 hov)
        | (go_at_call 57; refine hc.mono ?_; rintro e w3 ⟨⟨o, rfl⟩, g1, g2, g3⟩; have G1 := Lib.hid g1; have G2 := Lib.hid g2; have G3 := Lib.hid g3; clear g1 g2 g3 hc))
      exact ⟨⟨k + 1, by omega, by go_num, G1.out, G2.out, (H3.out.trans ((below_fr B2.out wTy true).fx b)).trans G3.out⟩, by simp [intOf]; omega⟩
    · obtain rfl : k = 3 := by omega
      have H1 := Lib.hid h1; have H2 := Lib.hid h2; have H3 := Lib.hid h3
      rw [show (((3 : Nat) : Int) == 3) = true from rfl] at hov
      clear h1 h2 h3
      go_wp2_with (go_at_call 111; refine hov.mono ?_; rintro e w2 ⟨rfl, b2⟩)
      go_ret
      exact ⟨rfl, H1.out.keep b2, H2.out.below b2, H3.out.trans ((below_fr b2 wTy true).fx b)⟩
/-! ## What they leave. -/
theorem ptg (x t : Int) (n i : Nat) (h0 : 0 ≤ x) (hn : n < 4) (hi : i < 4) (t0 : 0 ≤ t) (t1 : t ≤ 255) : tg (put x n t) i = if i = n then t else tg x i := by
  unfold put tg
  match n, hn, i, hi with
  | 0, _, 0, _ | 0, _, 1, _ | 0, _, 2, _ | 0, _, 3, _ | 1, _, 0, _ | 1, _, 1, _ | 1, _, 2, _ | 1, _, 3, _ | 2, _, 0, _ | 2, _, 1, _ | 2, _, 2, _ | 2, _, 3, _ | 3, _, 0, _ | 3, _, 1, _ | 3, _, 2, _ | 3, _, 3, _ => first | (simp; done) | (simp; omega)
theorem tag_with (x t k j : Int) (h0 : 0 ≤ x) (hk : 0 ≤ k ∧ k < 4) (hj : 0 ≤ j ∧ j < 4) (t0 : 0 ≤ t ∧ t ≤ 255) : tagOf (withOf x k t) j = if j = k then t else tagOf x j := by
  unfold withOf tagOf
  rw [if_pos hj, if_pos ⟨hk, t0⟩, if_pos hj, ptg x t _ _ h0 (by omega) (by omega) t0.1 t0.2]
  by_cases h : j = k
  · rw [if_pos h, if_pos (by rw [h])]
  · rw [if_neg h, if_neg (by omega)]
theorem cell_one {b b' u u' : Int} (hb : 1 ≤ b ∧ b ≤ 4) (hb' : 1 ≤ b' ∧ b' ≤ 4) (hu : 0 ≤ u ∧ u < tsize b) (hu' : 0 ≤ u' ∧ u' < tsize b') (h : tsize b + u = tsize b' + u') : b = b' ∧ u = u' := by
  rcases four hb with ⟨h1, h2⟩ | ⟨h1, h2⟩ | ⟨h1, h2⟩ | ⟨h1, h2⟩ <;> rcases four hb' with ⟨h3, h4⟩ | ⟨h3, h4⟩ | ⟨h3, h4⟩ | ⟨h3, h4⟩ <;> omega
theorem tags_at {b u : Int} (hu : 0 ≤ u ∧ u < tsize b) : tagsA b u = 4096 + 8 * (tsize b + u) := by
  unfold tagsA hasP; simp [hu]
theorem item_at {b u k : Int} (hu : 0 ≤ u ∧ u < tsize b) (hk : 0 ≤ k ∧ k < 4) : itemA b u k = 4096 + 8 * (tsize b + u) + 1 + k := by
  unfold itemA hasS hasP; simp [hu, hk]
/-- A slot says t and r; no other one's words have turned. -/
def Turned (s s' : CS) (b u k t r : Int) : Prop := ∀ b' u' k', (1 ≤ b' ∧ b' ≤ 4) → (0 ≤ u' ∧ u' < tsize b') → (0 ≤ k' ∧ k' < 4) →
  if b' = b ∧ u' = u ∧ k' = k then tagOf (s'.val (tagsA b' u')) k' = t ∧ s'.val (itemA b' u' k') = r else tagOf (s'.val (tagsA b' u')) k' = tagOf (s.val (tagsA b' u')) k' ∧ s'.val (itemA b' u' k') = s.val (itemA b' u' k')
theorem turned_of {s s' : CS} {b u k t r : Int} (hb : 1 ≤ b ∧ b ≤ 4) (hu : 0 ≤ u ∧ u < tsize b) (hk : 0 ≤ k ∧ k < 4) (ht : 0 ≤ t ∧ t ≤ 255) (h0 : 0 ≤ s.val (tagsA b u))
    (h1 : s'.val (tagsA b u) = withOf (s.val (tagsA b u)) k t) (h2 : s'.val (itemA b u k) = r) (h3 : ∀ x, x ≠ tagsA b u → x ≠ itemA b u k → s'.val x = s.val x) : Turned s s' b u k t r := by
  intro b' u' k' hb' hu' hk'
  have e1 := tags_at hu; have e2 := item_at hu hk; have e3 := tags_at hu'; have e4 := item_at hu' hk'
  by_cases hc : tsize b' + u' = tsize b + u
  · obtain ⟨rfl, rfl⟩ := cell_one hb' hb hu' hu hc
    by_cases hkk : k' = k
    · subst hkk
      rw [if_pos ⟨rfl, rfl, rfl⟩, h1, h2, tag_with _ _ _ _ h0 hk hk ht, if_pos rfl]
      exact ⟨rfl, rfl⟩
    · rw [if_neg (fun c => hkk c.2.2), h1, tag_with _ _ _ _ h0 hk hk' ht, if_neg hkk]
      exact ⟨rfl, h3 _ (by omega) (by omega)⟩
  · rw [if_neg (fun c => hc (by rw [c.1, c.2.1])), h3 _ (by omega) (by omega), h3 _ (by omega) (by omega)]
    exact ⟨rfl, rfl⟩
theorem put_turned (s : CS) {b u k t r : Int} (hb : 1 ≤ b ∧ b ≤ 4) (hu : 0 ≤ u ∧ u < tsize b) (hk : 0 ≤ k ∧ k < 4) (ht : 0 ≤ t ∧ t ≤ 255) (h0 : 0 ≤ s.val (tagsA b u)) : Turned s (pst s (tagsA b u) (itemA b u k) k t r 3) b u k t r := by
  have hne : tagsA b u ≠ itemA b u k := by rw [tags_at hu, item_at hu hk]; omega
  have e : (s.acc 2 (itemA b u k) r).val (tagsA b u) = s.val (tagsA b u) := CS.acc_val _ _ _ _ hne
  refine turned_of hb hu hk ht h0 ?_ ?_ ?_
  · show (CS.acc _ _ _ _).val _ = _
    rw [CS.acc_self, e]
  · show (CS.acc _ _ _ _).val _ = _
    rw [CS.acc_val _ _ _ _ hne.symm, CS.acc_val _ _ _ _ hne.symm, CS.acc_self]
  · intro x h1 h2
    show (CS.acc _ _ _ _).val _ = _
    rw [CS.acc_val _ _ _ _ h1, CS.acc_val _ _ _ _ h1, CS.acc_val _ _ _ _ h2]
theorem out_turned (s : CS) {b u k : Int} (hb : 1 ≤ b ∧ b ≤ 4) (hu : 0 ≤ u ∧ u < tsize b) (hk : 0 ≤ k ∧ k < 4) (h0 : 0 ≤ s.val (tagsA b u)) : Turned s (ost s (tagsA b u) (itemA b u k) k 3) b u k 0 0 := by
  have hne : tagsA b u ≠ itemA b u k := by rw [tags_at hu, item_at hu hk]; omega
  refine turned_of hb hu hk (by omega) h0 ?_ ?_ ?_
  · show (CS.acc _ _ _ _).val _ = _
    rw [CS.acc_val _ _ _ _ hne, CS.acc_self]
  · show (CS.acc _ _ _ _).val _ = _
    rw [CS.acc_self]
  · intro x h1 h2
    show (CS.acc _ _ _ _).val _ = _
    rw [CS.acc_val _ _ _ _ h2, CS.acc_val _ _ _ _ h1, CS.acc_val _ _ _ _ h1]
end Go.Proofs.YthehdcpjlddbpaaGreat

/-
  PutsBeside: what comes in; its two tables of what slots say.
-/
namespace Go.Proofs.YthehdcpjlddbpaaGreat
open Go.RowKit Go.Maps TagPure
set_option linter.unusedVariables false

structure Bes where
  f : Fst
  a0 : Int
  a1 : Int
  a2 : Int
  t : Int
  r : Int
  o : Bool
structure Bes.ok (y : Bes) : Prop where
  a0 : 0 ≤ y.a0 ∧ y.a0 < 256
  a1 : 0 ≤ y.a1 ∧ y.a1 < 256
  a2 : 0 ≤ y.a2 ∧ y.a2 < 256
  t : 0 ≤ y.t ∧ y.t < 256
  r : 0 ≤ y.r ∧ y.r < 65536
def Bes.cells (y : Bes) : Array Value := #[.int .i64 y.f.c.bits, .int .i64 y.f.c.budget, .int .i64 y.f.c.tries, .int .i64 y.f.c.quantum, .int .i64 y.f.c.way, .bool y.f.gr, .slice y.f.ia y.f.its.length y.f.ic, .slice y.f.pa y.f.puts.length y.f.pc, .slice y.f.sa y.f.sts.length y.f.sc, .int .i64 y.f.ticks, .int .u8 y.a0, .int .u8 y.a1, .int .u8 y.a2, .int .u8 y.t, .int .u16 y.r, .bool y.o]
def besLeaves : List Leaf := [.int .i64, .int .i64, .int .i64, .int .i64, .int .i64, .bool, .sl itmLeaves, .sl [.int .u8, .int .u8, .int .u8], .sl [.int .u64, .int .u64], .int .i64, .int .u8, .int .u8, .int .u8, .int .u8, .int .u16, .bool]
theorem leaves_beside : leaves Tryz.prog 6 32 = some besLeaves := by kernel_rfl
theorem wf_u16 {x : Int} (h : (Lit.int .u16 x).wf = true) : 0 ≤ x ∧ x < 65536 := by
  have hmin : IntKind.u16.min = 0 := rfl
  have hmax : IntKind.u16.max = 65535 := rfl
  simp only [Lit.wf, Bool.and_eq_true, decide_eq_true_eq] at h; omega
theorem bes_of {w : World} {cs : List Value} (h : Leaf.allHold w besLeaves cs) : ∃ y : Bes, cs = y.cells.toList ∧ FstRd w y.f ∧ y.ok := by
  unfold besLeaves at h
  obtain ⟨c0, r, rfl, g0, h⟩ := allHold_cons h
  obtain ⟨c1, r, rfl, g1, h⟩ := allHold_cons h
  obtain ⟨c2, r, rfl, g2, h⟩ := allHold_cons h
  obtain ⟨c3, r, rfl, g3, h⟩ := allHold_cons h
  obtain ⟨c4, r, rfl, g4, h⟩ := allHold_cons h
  obtain ⟨c5, r, rfl, g5, h⟩ := allHold_cons h
  obtain ⟨c6, r, rfl, g6, h⟩ := allHold_cons h
  obtain ⟨c7, r, rfl, g7, h⟩ := allHold_cons h
  obtain ⟨c8, r, rfl, g8, h⟩ := allHold_cons h
  obtain ⟨c9, r, rfl, g9, h⟩ := allHold_cons h
  obtain ⟨c10, r, rfl, g10, h⟩ := allHold_cons h
  obtain ⟨c11, r, rfl, g11, h⟩ := allHold_cons h
  obtain ⟨c12, r, rfl, g12, h⟩ := allHold_cons h
  obtain ⟨c13, r, rfl, g13, h⟩ := allHold_cons h
  obtain ⟨c14, r, rfl, g14, h⟩ := allHold_cons h
  obtain ⟨c15, r, rfl, g15, h⟩ := allHold_cons h
  obtain rfl := allHold_nil h
  obtain ⟨z0, rfl, -⟩ := holds_int g0
  obtain ⟨z1, rfl, -⟩ := holds_int g1
  obtain ⟨z2, rfl, -⟩ := holds_int g2
  obtain ⟨z3, rfl, -⟩ := holds_int g3
  obtain ⟨z4, rfl, -⟩ := holds_int g4
  obtain ⟨z5, rfl⟩ := holds_bool g5
  obtain ⟨z9, rfl, -⟩ := holds_int g9
  obtain ⟨z10, rfl, k10⟩ := holds_int g10
  obtain ⟨z11, rfl, k11⟩ := holds_int g11
  obtain ⟨z12, rfl, k12⟩ := holds_int g12
  obtain ⟨z13, rfl, k13⟩ := holds_int g13
  obtain ⟨z14, rfl, k14⟩ := holds_int g14
  obtain ⟨z15, rfl⟩ := holds_bool g15
  obtain ⟨its, hi⟩ := itms_of g6
  obtain ⟨ia, ic, rfl, hi2⟩ := id hi
  obtain ⟨puts, pa, pc, rfl, hp⟩ := tri_of g7
  obtain ⟨sts, sa, sc, rfl, hs⟩ := wds_of g8
  exact ⟨⟨⟨⟨z0, z1, z2, z3, z4⟩, z5, ia, ic, its, pa, pc, puts, sa, sc, sts, z9⟩, z10, z11, z12, z13, z14, z15⟩, rfl, ⟨hi, hp, hs⟩, ⟨wf_u8 k10, wf_u8 k11, wf_u8 k12, wf_u8 k13, wf_u16 k14⟩⟩
set_option maxRecDepth 10000 in
theorem bes_open {H : Type} {w : World} {enc : TypeId × Value → H} {base : Nat} {v : Value} {d : DataW H} {p : List MemPlace} (k : DataW.Trod enc Tryz.prog w 0 (fun _ => true) true 32 v d p) (o : Value.okWide Tryz.prog w .any base 32 v) : ∃ y : Bes, v = .agg y.cells ∧ FstRd w y.f ∧ y.ok := by
  obtain ⟨cs, rfl, -⟩ := Go.WideShapes.okWide_struct Tryz.underlying32 o
  obtain ⟨f, hf, hr⟩ := bes_of (opened leaves_beside k)
  refine ⟨f, ?_, hr⟩
  have : cs.toList = f.cells.toList := hf
  rw [Array.toList_inj.1 this]
/-! ## The n-th slot of the four tables. -/
def spB (j : Nat) : Int := if j < 8 then 1 else if j < 24 then 2 else if j < 56 then 3 else 4
def spO (j : Nat) : Int := if j < 8 then 0 else if j < 24 then 8 else if j < 56 then 24 else 56
def Tg (s : CS) (j : Nat) : Int := tagOf (s.val (tagsA (spB j) ((j - spO j) / 4))) ((j - spO j) % 4)
def It (s : CS) (j : Nat) : Int := s.val (itemA (spB j) ((j - spO j) / 4) ((j - spO j) % 4))
theorem sp_at {b k : Int} {j : Nat} (hb : 1 ≤ b ∧ b ≤ 4) (hk : 0 ≤ k ∧ k < 4 * tsize b) (hj : (j : Int) = 4 * tsize b - 8 + k) (s : CS) : Tg s j = tagOf (s.val (tagsA b (k / 4))) (k % 4) ∧ It s j = s.val (itemA b (k / 4) (k % 4)) ∧ j < 120 := by
  have key : spB j = b ∧ (j : Int) - spO j = k ∧ j < 120 := by
    unfold spB spO
    rcases four hb with ⟨h1, h2⟩ | ⟨h1, h2⟩ | ⟨h1, h2⟩ | ⟨h1, h2⟩ <;> rw [h2] at hj hk <;> (repeat' split) <;> omega
  unfold Tg It
  rw [key.1, key.2.1]
  exact ⟨rfl, rfl, key.2.2⟩
def aTy (T : TypeId) : Bool := T == 44 || T == 46
theorem w_not_a (T : TypeId) (h : wTy T = true) : aTy T = false := by
  unfold wTy at h
  simp only [Bool.or_eq_true, beq_iff_eq] at h
  rcases h with ((((((rfl | rfl) | rfl) | rfl) | rfl) | rfl) | rfl) | rfl <;> rfl
/-- The two tables say what n slots say. -/
structure BT (w0 w7 w : World) (p q n : Nat) (s : CS) : Prop where
  fr : Fr aTy false w7 w
  below : Below w0.heap.size w0 w
  tg : ∃ cs, w.heap[p]? = some (.cells cs 44 (0, 0)) ∧ cs.size = 120 ∧ ∀ j, j < n → cs[j]? = some (.int .i64 (Tg s j))
  it : ∃ cs, w.heap[q]? = some (.cells cs 46 (0, 0)) ∧ cs.size = 120 ∧ ∀ j, j < n → cs[j]? = some (.int .u64 (It s j))
  lo : w0.heap.size ≤ p ∧ w0.heap.size ≤ q ∧ p ≠ q
section
variable {w0 w7 w w' : World} {p q n : Nat} {s : CS}
theorem BT.keep (h : BT w0 w7 w p q n s) (hb : Below w.heap.size w w') : BT w0 w7 w' p q n s := by
  obtain ⟨h1, h2, ⟨cs, h3, h3'⟩, ⟨ds, h4, h4'⟩, h5⟩ := h
  exact ⟨h1.trans (below_fr hb _ _), h2.trans (hb.mono h2.size), ⟨cs, (hb.block _ (Array.getElem?_eq_some_iff.1 h3).1).trans h3, h3'⟩, ⟨ds, (hb.block _ (Array.getElem?_eq_some_iff.1 h4).1).trans h4, h4'⟩, h5⟩
theorem BT.cell (h : BT w0 w7 w p q n s) (j : Nat) (hj : j < n) : w.cell? ⟨p, j, none⟩ = some (.int .i64 (Tg s j)) ∧ w.cell? ⟨q, j, none⟩ = some (.int .u64 (It s j)) := by
  obtain ⟨h1, h2, ⟨cs, h3, _, h3'⟩, ⟨ds, h4, _, h4'⟩, h5⟩ := h
  exact ⟨(hcell h3 j).trans (h3' j hj), (hcell h4 j).trans (h4' j hj)⟩
theorem BT.free (h : BT w0 w7 w p q n s) (j : Nat) : w.frozen? ⟨p, j, none⟩ = false ∧ w.frozen? ⟨q, j, none⟩ = false := by
  obtain ⟨h1, h2, ⟨cs, h3, _⟩, ⟨ds, h4, _⟩, h5⟩ := h
  exact ⟨hfrz h3 j, hfrz h4 j⟩
theorem BT.has (h : BT w0 w7 w p q n s) (j : Nat) (hj : j < 120) : ∃ u v, w.cell? ⟨p, j, none⟩ = some u ∧ w.cell? ⟨q, j, none⟩ = some v := by
  obtain ⟨h1, h2, ⟨cs, h3, h3', _⟩, ⟨ds, h4, h4', _⟩, h5⟩ := h
  exact ⟨cs[j], ds[j], (hcell h3 j).trans (Array.getElem?_eq_getElem (by omega)), (hcell h4 j).trans (Array.getElem?_eq_getElem (by omega))⟩
theorem BT.put (h : BT w0 w7 w p q n s) (hn : n < 120) {a b : Int} (ha : a = Tg s n) (hb : b = It s n) : BT w0 w7 ((w.setCell ⟨p, n, none⟩ (.int .i64 a)).setCell ⟨q, n, none⟩ (.int .u64 b)) p q (n + 1) s := by
  subst ha; subst hb
  obtain ⟨h1, h2, ⟨cs, h3, h3', h3''⟩, ⟨ds, h4, h4', h4''⟩, h5, h6, h7⟩ := h
  have s1 := setCell_same h3 n (.int .i64 (Tg s n))
  have f1 := set_ty h3 n (.int .i64 (Tg s n))
  have z4 : (w.setCell ⟨p, n, none⟩ (.int .i64 (Tg s n))).heap[q]? = some (.cells ds 46 (0, 0)) := (Below.heap_setCell _ _ _ _ (fun c => h7 (by first | exact c | exact c.symm))).trans h4
  have s2 := setCell_same z4 n (.int .u64 (It s n))
  have f2 := set_ty z4 n (.int .u64 (It s n))
  have z3 : ((w.setCell ⟨p, n, none⟩ (.int .i64 (Tg s n))).setCell ⟨q, n, none⟩ (.int .u64 (It s n))).heap[p]? = some (.cells (cs.setIfInBounds n (.int .i64 (Tg s n))) 44 (0, 0)) := (Below.heap_setCell _ _ _ _ (fun c => h7 (by first | exact c | exact c.symm))).trans s1
  have e1 : ∀ (ks : Array Value) (g : Nat → Value), ks.size = 120 → (∀ j, j < n → ks[j]? = some (g j)) → ∀ j, j < n + 1 → (ks.setIfInBounds n (g n))[j]? = some (g j) := fun ks g hs hk j hj => by
    by_cases hjn : j = n
    · subst hjn; rw [Array.getElem?_setIfInBounds_self, if_pos (by omega)]
    · rw [Array.getElem?_setIfInBounds_ne (by omega)]; exact hk j (by omega)
  have hT1 : ∀ T, aTy T = false → (T == 44) = false ∧ (T == 46) = false := fun T hT => by unfold aTy at hT; simpa only [Bool.or_eq_false_iff] using hT
  refine ⟨h1.trans ((f1.mono (fun T hT => (hT1 T hT).1) id).trans (f2.mono (fun T hT => (hT1 T hT).2) id)), set_below (set_below h2 h2.size h5 n _) (set_below h2 h2.size h5 n _).size h6 n _, ⟨_, z3, by simp [h3'], e1 cs (fun j => .int .i64 (Tg s j)) h3' h3''⟩, ⟨_, s2, by simp [h4'], e1 ds (fun j => .int .u64 (It s j)) h4' h4''⟩, h5, h6, h7⟩
end
theorem BT.base {w0 w7 w w' : World} {p q n : Nat} {s : CS} (h : BT w0 w7 w p q n s) {x : Nat} (hf : Fx wTy true x w w') (hx : w.heap.size ≤ x) (hb : Below w0.heap.size w0 w') : BT w0 w' w' p q n s := by
  obtain ⟨h1, h2, ⟨cs, h3, h3'⟩, ⟨ds, h4, h4'⟩, h5⟩ := h
  have l3 := (Array.getElem?_eq_some_iff.1 h3).1
  have l4 := (Array.getElem?_eq_some_iff.1 h4).1
  exact ⟨Fr.refl _ _ _, hb, ⟨cs, hf.cells _ _ _ _ h3 rfl (by omega), h3'⟩, ⟨ds, hf.cells _ _ _ _ h4 rfl (by omega), h4'⟩, h5⟩
/-- A run that makes a slot say t and r. -/
def RunsTo (w0 wx : World) (B : WB) (V : WV) (s : CS) (b u k t r : Int) (v : Value) (lo : Nat) : Prop :=
  Calls Tryz.prog 20 #[.pointer (some ⟨B.wb, 0, none⟩), v, .int .i64 9] wx fun e w' => e = .returned (.int .i64 3) ∧ ∃ s' x, WS w0 w' B V s' ∧ Turned s s' b u k t r ∧ Fx wTy true x wx w' ∧ lo ≤ x
theorem BT.new {w0 w5 : World} (hb : Below w0.heap.size w0 w5) (s : CS) : BT w0 ((w5.alloc (.cells (Array.replicate 120 (.int .i64 0)) 44)).alloc (.cells (Array.replicate 120 (.int .u64 0)) 46)) ((w5.alloc (.cells (Array.replicate 120 (.int .i64 0)) 44)).alloc (.cells (Array.replicate 120 (.int .u64 0)) 46)) w5.heap.size (w5.heap.size + 1) 0 s := by
  have b1 := below_alloc w5 (.cells (Array.replicate 120 (.int .i64 0)) 44)
  have b2 := bnext b1 (below_alloc (w5.alloc (.cells (Array.replicate 120 (.int .i64 0)) 44)) (.cells (Array.replicate 120 (.int .u64 0)) 46))
  have e : (w5.alloc (.cells (Array.replicate 120 (.int .i64 0)) 44)).heap.size = w5.heap.size + 1 := by simp
  refine ⟨Fr.refl _ _ _, hb.trans (b2.mono hb.size), ⟨_, heap_alloc_old (heap_alloc_new w5 _), by simp, fun j hj => by omega⟩, ⟨_, by rw [← e]; exact heap_alloc_new _ _, by simp, fun j hj => by omega⟩, hb.size, by have := hb.size; omega, by omega⟩
theorem tsize_two {b : Nat} (h : 1 ≤ b ∧ b ≤ 4) : tsize ((b + 1 : Nat) : Int) = 2 * tsize b ∧ 2 ≤ tsize b ∧ tsize b ≤ 16 := by
  rcases (show b = 1 ∨ b = 2 ∨ b = 3 ∨ b = 4 by omega) with rfl | rfl | rfl | rfl <;> decide
theorem eql_spot (a b c x y z : Int) (W : World) : (binOp .eql 42 (.agg #[.int .i64 a, .int .i64 b, .int .i64 c]) (.agg #[.int .i64 x, .int .i64 y, .int .i64 z])).run Tryz.prog W = .ok (.bool ((a == x && b == y) && c == z)) W := by
  cases h1 : a == x <;> cases h2 : b == y <;> cases h3 : c == z <;> go_simp
theorem neq_spot (a b c x y z : Int) (W : World) : (binOp .neq 42 (.agg #[.int .i64 a, .int .i64 b, .int .i64 c]) (.agg #[.int .i64 x, .int .i64 y, .int .i64 z])).run Tryz.prog W = .ok (.bool (!((a == x && b == y) && c == z))) W := by
  cases h1 : a == x <;> cases h2 : b == y <;> cases h3 : c == z <;> go_simp
end Go.Proofs.YthehdcpjlddbpaaGreat

/-
  PutsBeside: the walk.
-/
namespace Go.Proofs.YthehdcpjlddbpaaGreat
open Go.RowKit Go.Maps TagPure
set_option linter.unusedVariables false

theorem bes_cells {W : World} {q : Nat} {y : Bes} (z : W.heap[q]? = some (.cells y.cells 32 (0, 0))) : W.cell? ⟨q, 0, none⟩ = some (.int .i64 y.f.c.bits) ∧ W.cell? ⟨q, 1, none⟩ = some (.int .i64 y.f.c.budget) ∧ W.cell? ⟨q, 2, none⟩ = some (.int .i64 y.f.c.tries) ∧ W.cell? ⟨q, 3, none⟩ = some (.int .i64 y.f.c.quantum) ∧ W.cell? ⟨q, 4, none⟩ = some (.int .i64 y.f.c.way) ∧ W.cell? ⟨q, 5, none⟩ = some (.bool y.f.gr) ∧ W.cell? ⟨q, 6, none⟩ = some (.slice y.f.ia y.f.its.length y.f.ic) ∧ W.cell? ⟨q, 7, none⟩ = some (.slice y.f.pa y.f.puts.length y.f.pc) ∧ W.cell? ⟨q, 8, none⟩ = some (.slice y.f.sa y.f.sts.length y.f.sc) ∧ W.cell? ⟨q, 9, none⟩ = some (.int .i64 y.f.ticks) ∧ W.cell? ⟨q, 10, none⟩ = some (.int .u8 y.a0) ∧ W.cell? ⟨q, 11, none⟩ = some (.int .u8 y.a1) ∧ W.cell? ⟨q, 12, none⟩ = some (.int .u8 y.a2) ∧ W.cell? ⟨q, 13, none⟩ = some (.int .u8 y.t) ∧ W.cell? ⟨q, 14, none⟩ = some (.int .u16 y.r) ∧ W.cell? ⟨q, 15, none⟩ = some (.bool y.o) :=
  ⟨hcell z 0, hcell z 1, hcell z 2, hcell z 3, hcell z 4, hcell z 5, hcell z 6, hcell z 7, hcell z 8, hcell z 9, hcell z 10, hcell z 11, hcell z 12, hcell z 13, hcell z 14, hcell z 15⟩
theorem bpair_w (a b : Value) (W : World) : (Instr.field 37 (.agg #[a, b]) 0).run Tryz.prog W = .ok a W := by kernel_rfl
set_option maxRecDepth 100000 in
set_option maxHeartbeats 8000000 in
theorem beside_any (y : Bes) (w : World) (hr : FstRd w y.f) (hy : y.ok) :
    Calls Tryz.prog 3 #[.agg #[.int .i64 y.f.c.bits, .int .i64 y.f.c.budget, .int .i64 y.f.c.tries, .int .i64 y.f.c.quantum, .int .i64 y.f.c.way, .bool y.f.gr, .slice y.f.ia y.f.its.length y.f.ic, .slice y.f.pa y.f.puts.length y.f.pc, .slice y.f.sa y.f.sts.length y.f.sc, .int .i64 y.f.ticks, .int .u8 y.a0, .int .u8 y.a1, .int .u8 y.a2, .int .u8 y.t, .int .u16 y.r, .bool y.o]] w
    fun e w' => e = .returned (.bool true) ∧ Below w.heap.size w w' := by
  have hB := below_alloc w (.cells y.cells 32)
  have z := heap_alloc_new w (.cells y.cells 32)
  have HR := Lib.hid (hr.below hB); have HB := Lib.hid hB; have HZ := Lib.hid z; have HY := Lib.hid hy
  clear hr hB z hy
  go_enter Tryz.func3, Tryz.ntmps3
  go_upto_region 1 with (fail)
  change Code.wp _ _ _ _ (w.alloc (.cells y.cells 32))
  generalize w.alloc (.cells y.cells 32) = w1 at *
  have z := HZ.out
  obtain ⟨e0, e1, e2, e3, e4, e5, e6, e7, e8, e9, -⟩ := bes_cells z
  clear z
  go_upto_if 20 with (go_at_call 10; refine (great_any y.f w1 HR.out).mono ?_; rintro e w2 ⟨g, rfl, b2, hg⟩; have B2 := Lib.hid b2; have HG := Lib.hid hg; clear b2 hg e0 e1 e2 e3 e4 e5 e6 e7 e8 e9)
  cases g
  rotate_left
  · go_wp2_with (go_at_call 11; refine (lives13 _).mono ?_; rintro e w3 ⟨rfl, b3⟩)
    go_ret
    have h1 := HB.out.trans (B2.out.mono HB.out.size)
    exact ⟨rfl, h1.trans (b3.mono h1.size)⟩
  obtain ⟨hin, hsz⟩ := HG.out rfl
  have HIN := Lib.hid (hin.below B2.out)
  have HBB : Hid (Below w.heap.size w w2) := HB.out.trans (B2.out.mono HB.out.size)
  have z := (B2.out.block _ (Array.getElem?_eq_some_iff.1 HZ.out).1).trans HZ.out
  obtain ⟨e0, e1, e2, e3, e4, e5, e6, e7, e8, e9, -⟩ := bes_cells z
  have HZ2 := Lib.hid z
  clear z hin hsz
  have hpw := bpair_w
  go_upto_region 4 with (go_at_call 12; refine (begin_any y.f w2 HIN.out).mono ?_; rintro e w3 ⟨B, R, V, s, x, rfl, hpr, hV, hfar, hcok, -⟩; have H3 := Lib.hid hpr.ws; have HFAR := Lib.hid (And.intro hfar.1 hfar.2.1); clear hpr hV hfar hcok e0 e1 e2 e3 e4 e5 e6 e7 e8 e9)
  clear HG HIN HR HB B2 HZ
  have z3 := (H3.out.below.block _ (Array.getElem?_eq_some_iff.1 HZ2.out).1).trans HZ2.out
  have HYLO : Hid (w.heap.size < w2.heap.size) := (Array.getElem?_eq_some_iff.1 HZ2.out).1
  obtain ⟨-, -, -, -, -, -, -, -, -, -, e10, e11, e12, -⟩ := bes_cells z3
  have hok := HY.out
  obtain ⟨q0, q1, q2, q3, q4⟩ := hok
  obtain ⟨c0, hc0⟩ : ∃ c0 : Int, c0 = y.a0 % 4 := ⟨_, rfl⟩
  have k1 : y.a0.tmod 4 = c0 := by rw [hc0]; exact Int.tmod_eq_emod_of_nonneg q0.1
  have k2 : wrap64 c0 = c0 := IntWalk.wrap64_in _ (by omega)
  obtain ⟨b, hb⟩ : ∃ b : Int, b = 1 + c0 := ⟨_, rfl⟩
  have hb4 : 1 ≤ b ∧ b ≤ 4 := by omega
  have k3 : wrap64 (1 + c0) = b := by rw [hb]; exact IntWalk.wrap64_in _ (by omega)
  have k4 : wrap64 y.a1 = y.a1 := IntWalk.wrap64_in _ (by omega)
  have k5 : wrap64 y.a2 = y.a2 := IntWalk.wrap64_in _ (by omega)
  obtain ⟨u, hu⟩ : ∃ u : Int, u = y.a1 % tsize b := ⟨_, rfl⟩
  obtain ⟨sl, hsl⟩ : ∃ sl : Int, sl = y.a2 % 4 := ⟨_, rfl⟩
  have hspot := fun W => spot_in b y.a1 y.a2 u sl hb4 q1 q2 hu.symm hsl.symm W
  have HB4 := Lib.hid hb4
  have HU : Hid (0 ≤ u ∧ u < tsize b) := by
    have hp : 0 < tsize b := by rcases four hb4 with ⟨_, h⟩ | ⟨_, h⟩ | ⟨_, h⟩ | ⟨_, h⟩ <;> rw [h] <;> decide
    rw [hu]; exact ⟨Int.emod_nonneg _ (by omega), Int.emod_lt_of_pos _ hp⟩
  have HSL : Hid (0 ≤ sl ∧ sl < 4) := by show _ ∧ _; omega
  clear q0 q1 q2 q3 q4 hc0 hb hb4 hu hsl z3
  go_upto_region 5 with (go_at_call 13; with_reducible refine (hspot _).mono ?_; rintro e w4 ⟨rfl, b4⟩; have H4 := Lib.hid (H3.out.keep b4); clear b4 hspot)
  clear k1 k2 k3 k4 k5 e10 e11 e12
  have hq5 := heap_alloc_new w4 (.cells #[.int .i64 b, .int .i64 u, .int .i64 sl] 42)
  have hb5 := below_alloc w4 (.cells #[.int .i64 b, .int .i64 u, .int .i64 sl] 42)
  change Code.wp _ _ _ _ (w4.alloc (.cells #[.int .i64 b, .int .i64 u, .int .i64 sl] 42))
  have H5 := Lib.hid (H4.out.keep hb5)
  have HQ5 := Lib.hid hq5
  generalize w4.alloc (.cells #[.int .i64 b, .int .i64 u, .int .i64 sl] 42) = w5 at *
  generalize w4.heap.size = q at *
  clear hq5 hb5 H4
  go_upto_region 7 with (fail)
  change Code.wp _ _ _ _ ((w5.alloc (.cells (Array.replicate 120 (.int .i64 0)) 44)).alloc (.cells (Array.replicate 120 (.int .u64 0)) 46))
  have hbt := BT.new (w0 := w2) H5.out.below s
  have hw7 : WS w2 ((w5.alloc (.cells (Array.replicate 120 (.int .i64 0)) 44)).alloc (.cells (Array.replicate 120 (.int .u64 0)) 46)) B V s := (H5.out.keep (below_alloc w5 _)).keep (below_alloc _ _)
  have hq7 := heap_alloc_old (o := .cells (Array.replicate 120 (.int .u64 0)) 46) (heap_alloc_old (o := .cells (Array.replicate 120 (.int .i64 0)) 44) HQ5.out)
  generalize (w5.alloc (.cells (Array.replicate 120 (.int .i64 0)) 44)).alloc (.cells (Array.replicate 120 (.int .u64 0)) 46) = w7 at *
  generalize w5.heap.size + 1 = pi at *
  generalize w5.heap.size = pt at *
  have HBT := Lib.hid hbt; have HW7 := Lib.hid hw7; have HQ7 := Lib.hid hq7
  have HNE : Hid (pt ≠ pi) := hbt.lo.2.2
  have HWF := Lib.hid hw7.own.wf
  clear hbt hw7 hq7 H5 HQ5
  go_wp2_with fail
  go_loopw [7, 8] (fun n v wr => ∃ (bb j : Nat), 1 ≤ bb ∧ bb ≤ 5 ∧ v = .int .i64 bb ∧ n = .int .i64 j ∧ (j : Int) = 4 * tsize bb - 8 ∧ BT w2 w7 wr pt pi j s) (fun _ v _ => 5 - (intOf v).toNat)
  case atStart => exact ⟨1, 0, by omega, by omega, rfl, rfl, by decide, HBT.out⟩
  case round =>
    clear HBT
    obtain ⟨bb, j, hb1, hb5, rfl, rfl, hj, hT⟩ := hrel
    by_cases hlt : bb < 5
    · have hlt' : (bb : Int) < 5 := by omega
      obtain ⟨ht2, ht3, ht4⟩ := tsize_two ⟨hb1, (by omega : bb ≤ 4)⟩
      have HJ := Lib.hid hj; have HT := Lib.hid hT; have HT2 := Lib.hid ht2; have HT34 := Lib.hid (And.intro ht3 ht4)
      have HBB : Hid (1 ≤ (bb : Int) ∧ (bb : Int) ≤ 4) := by show _ ∧ _; omega
      clear hj hT ht2 ht3 ht4
      obtain ⟨wo, rfl⟩ : ∃ wo : World, wo = wr := ⟨_, rfl⟩
      go_wp2_with fail
      go_loopw [7, 9] (fun n v wr => ∃ (k i : Nat), (k : Int) ≤ 4 * tsize bb ∧ v = .int .i64 k ∧ n = .int .i64 i ∧ (i : Int) = 4 * tsize bb - 8 + k ∧ BT w2 w7 wr pt pi i s) (fun _ v _ => 64 - (intOf v).toNat)
      case atStart => exact ⟨0, j, by have := HT34.out; omega, rfl, rfl, by have := HJ.out; omega, HT.out⟩
      case round =>
        clear HT HJ
        obtain ⟨k, i, hk, rfl, rfl, hi, hT⟩ := hrel
        have hwd := fun W => word_any bb 0 W
        have hsp := fun W => spots_any (tword bb 0) (tword_wf4 HBB.out) W
        rw [(as_one HBB.out).2.2] at hsp
        obtain ⟨A, hA⟩ : ∃ A : Int, A = 4 * tsize bb := ⟨_, rfl⟩
        rw [← hA] at hsp hk hi
        by_cases hkl : (k : Int) < A
        · have d1 : decide ((k : Int) < A) = true := decide_eq_true hkl
          obtain ⟨g1, g2, hi120⟩ := sp_at (s := s) HBB.out (k := k) (j := i) (by omega) (by omega)
          have d2 : decide ((i : Int) < 120) = true := decide_eq_true (by omega)
          have hk64 : k < 64 := by have := HT34.out; omega
          have hi120' : (i : Int) < 120 := by omega
          have hat := fun W => at_small bb k HBB.out (by omega) W
          obtain ⟨Q, hQ⟩ : ∃ Q : Int, Q = (k : Int) / 4 := ⟨_, rfl⟩
          obtain ⟨R, hR⟩ : ∃ R : Int, R = (k : Int) % 4 := ⟨_, rfl⟩
          rw [← hQ, ← hR] at hat g1 g2
          have HRW : Hid ((Lit.int .i64 R).wf = true) := by
            have : R = 0 ∨ R = 1 ∨ R = 2 ∨ R = 3 := by omega
            rcases this with h | h | h | h <;> rw [h] <;> rfl
          have HT := Lib.hid hT; have HG1 := Lib.hid g1; have HG2 := Lib.hid g2; have HI := Lib.hid hi; have HA := Lib.hid hA
          have HKA : Hid ((k : Int) < A) := hkl
          clear hT g1 g2 hi hA hQ hR hkl hk
          have hne := HNE.out
          go_upto_region 15 with (first
            | (go_at_call 15; refine (hwd _).mono ?_; intro e w' hh; obtain ⟨hh1, hh2⟩ := hh; subst hh1; obtain rfl := hh2.symm)
            | (go_at_call 14; refine (hsp _).mono ?_; intro e w' hh; obtain ⟨hh1, hh2⟩ := hh; subst hh1; obtain rfl := hh2.symm)
            | (go_at_call 17; refine (hat _).mono ?_; intro e w10 hh; obtain ⟨hh1, b10⟩ := hh; subst hh1; have HT10 := Lib.hid (HT.out.keep b10); have hslot := slot_any (HW7.out.fr HT10.out.fr w_not_a HT10.out.below) bb Q R HRW.out; clear b10 hat)
            | (go_at_call 16; refine hslot.mono ?_; intro e w11 hh; obtain ⟨hh1, b11⟩ := hh; subst hh1; rw [← HG1.out, ← HG2.out]; have HT11 := Lib.hid (HT10.out.keep b11); have hs := HT11.out.has i hi120; obtain ⟨u0, v0, hu0, hv0⟩ := hs; have hf := HT11.out.free i; obtain ⟨hf1, hf2⟩ := hf; clear b11 hslot))
          have hput := HT11.out.put hi120 rfl rfl
          have HP := Lib.hid hput
          clear hput hu0 hv0 hf1 hf2
          go_wp2_with fail
          go_roundw
          case rel => exact ⟨k + 1, i + 1, by have h1 := HKA.out; have h2 := HA.out; omega, by go_num, by go_num, by have h1 := HI.out; have h2 := HA.out; omega, HP.out⟩
          case measure => simp [intOf]; omega
        · have d1 : decide ((k : Int) < A) = false := decide_eq_false hkl
          have HT := Lib.hid hT
          have HE : Hid ((i : Int) = 4 * tsize ((bb + 1 : Nat) : Int) - 8) := by have := HT2.out; show _ = _; omega
          clear hT hi hk hkl hA
          go_wp2_with (first
            | (go_at_call 15; refine (hwd _).mono ?_; intro e w' hh; obtain ⟨hh1, hh2⟩ := hh; subst hh1; obtain rfl := hh2.symm)
            | (go_at_call 14; refine (hsp _).mono ?_; intro e w' hh; obtain ⟨hh1, hh2⟩ := hh; subst hh1; obtain rfl := hh2.symm))
          go_roundw
          case rel => exact ⟨bb + 1, i, by omega, by omega, by go_num, rfl, HE.out, HT.out⟩
          case measure => simp [intOf]; omega
    · obtain rfl : bb = 5 := by omega
      obtain rfl : j = 120 := by rw [show tsize ((5 : Nat) : Int) = 32 by decide] at hj; omega
      have hws := HW7.out.fr hT.fr w_not_a hT.below
      have hq := hT.fr.cells _ _ _ _ HQ7.out rfl
      obtain ⟨s0, s1, s2⟩ := spot3 _ _ _ _ _ _ hq
      have hz := (hT.below.block _ (Array.getElem?_eq_some_iff.1 HZ2.out).1).trans HZ2.out
      have hslw : (Lit.int .i64 sl).wf = true := by
        have := HSL.out
        have : sl = 0 ∨ sl = 1 ∨ sl = 2 ∨ sl = 3 := by omega
        rcases this with h | h | h | h <;> rw [h] <;> rfl
      have htg := tags_at HU.out
      have hit := item_at HU.out HSL.out
      have hpos : 0 ≤ tsize b := (tsize_bd b).1
      have hsof : sof b u sl = ⟨tagsA b u, itemA b u sl, sl, 0, 0⟩ := by
        unfold sof; rw [if_neg (by have := HU.out; have := HSL.out; omega)]
      have hno := fun W => newout_any b u sl hslw W
      have hnp := fun (g r : Int) (h1 : 1 ≤ g ∧ g ≤ 255) (h2 : 1 ≤ r) W => newput_in b u sl g r hslw h1 h2 W
      rw [hsof] at hno
      simp only [hsof] at hnp
      have hro : ∀ (W : World) (x : Nat), WS w2 W B V s → w2.heap.size ≤ x → wr.heap.size ≤ x → SlotAt W x 165 ⟨tagsA b u, itemA b u sl, sl, 0, 0⟩ [] → RunsTo w2 W B V s b u sl 0 0 (.iface 52 (.pointer (some ⟨x, 0, none⟩))) wr.heap.size := fun W x h1 h2 h3 h4 =>
        (run_out (m := 300) HFAR.out (by unfold lim; omega) h2 (by have := HU.out; omega) (tagsA_wf b u) (itemA_wf b u sl) h1 h4).mono fun e w' ⟨he, g1, g2, g3⟩ => ⟨he, _, x, g1, out_turned s HB4.out HU.out HSL.out (wf_bd (HWF.out _)).1, g3, h3⟩
      have hrp : ∀ (W : World) (x : Nat) (g r : Int), (1 ≤ g ∧ g ≤ 255) → (1 ≤ r ∧ r < 100000) → WS w2 W B V s → w2.heap.size ≤ x → wr.heap.size ≤ x → SlotAt W x 167 ⟨tagsA b u, itemA b u sl, sl, 0, 0⟩ [.int .i64 g, .int .i64 r] → RunsTo w2 W B V s b u sl g r (.iface 56 (.pointer (some ⟨x, 0, none⟩))) wr.heap.size := fun W x g r hg hr h1 h2 h3 h4 =>
        (run_put (m := 300) HFAR.out (by unfold lim; omega) h2 (by have := HU.out; omega) (tagsA_wf b u) (itemA_wf b u sl) (by omega) h1 h4).mono fun e w' ⟨he, g1, g2, g3⟩ => ⟨he, _, x, g1, put_turned s HB4.out HU.out HSL.out (by omega) (wf_bd (HWF.out _)).1, g3, h3⟩
      have HRO := Lib.hid hro; have HRP := Lib.hid hrp; have HNP := Lib.hid hnp
      have HWS := Lib.hid hws; have HQ := Lib.hid hq; have HZ := Lib.hid hz; have HT := Lib.hid hT
      have HSZ : Hid (w2.heap.size ≤ wr.heap.size) := hT.below.size
      clear hro hrp hnp hws hq hz hT hslw htg hit hpos hsof hj hb1 hb5 hlt HQ7 HZ2 HW7
      obtain ⟨wo, rfl⟩ : ∃ wo : World, wo = wr := ⟨_, rfl⟩
      obtain ⟨ob, hob⟩ : ∃ ob, y.o = ob := ⟨_, rfl⟩
      have HOB := Lib.hid hob
      clear hob
      go_upto_if 76 with (first
        | (go_at_call 18; with_reducible refine (hno _).mono ?_; intro e w9 hh; obtain ⟨x9, hh1, S9, l9, b9⟩ := hh; subst hh1; have hz9 := (b9.block _ (Array.getElem?_eq_some_iff.1 HZ.out).1).trans HZ.out; have hq9 := (b9.block _ (Array.getElem?_eq_some_iff.1 HQ.out).1).trans HQ.out; obtain ⟨-, -, -, -, -, -, -, -, -, -, -, -, -, e13, e14, e15⟩ := bes_cells hz9; rw [HOB.out] at e15; clear s0 s1 s2; obtain ⟨s0, s1, s2⟩ := spot3 _ _ _ _ _ _ hq9; have HR9 := Lib.hid (HRO.out _ _ (HWS.out.keep b9) (Nat.le_trans HSZ.out l9) l9 S9); have B9 := Lib.hid b9; clear S9 l9 b9 hz9 hq9 hno))
      have hyo := HY.out
      go_cut [10, 11, 12] (fun v10 v11 v12 wx => ∃ (T r : Int), v11 = .int .i64 T ∧ v12 = .int .u64 r ∧ RunsTo w2 wx B V s b u sl T r v10 wo.heap.size ∧ Below wo.heap.size wo wx)
      case first =>
        cases ob
        · obtain ⟨t5, ht5⟩ : ∃ t5 : Int, t5 = y.t % 255 := ⟨_, rfl⟩
          have k1 : y.t.tmod 255 = t5 := by rw [ht5]; exact Int.tmod_eq_emod_of_nonneg hyo.t.1
          have h5b := hyo.t
          have h6b := hyo.r
          have k2 : wrap64 t5 = t5 := IntWalk.wrap64_in _ (by omega)
          obtain ⟨G, hG⟩ : ∃ G : Int, G = 1 + t5 := ⟨_, rfl⟩
          have k3 : wrap64 (1 + t5) = G := by rw [hG]; exact IntWalk.wrap64_in _ (by omega)
          obtain ⟨R1, hR1⟩ : ∃ R1 : Int, R1 = 1 + y.r := ⟨_, rfl⟩
          have k4 : wrap64 y.r = y.r := IntWalk.wrap64_in _ (by omega)
          have k5 : wrap64 (1 + y.r) = R1 := by rw [hR1]; exact IntWalk.wrap64_in _ (by omega)
          have k6 : IntKind.u64.wrap y.r = y.r := by rw [IntKind.wrap_u64]; omega
          have k7 : IntKind.u64.wrap (1 + y.r) = R1 := by rw [IntKind.wrap_u64]; omega
          have HG : Hid (1 ≤ G ∧ G ≤ 255) := by show _ ∧ _; omega
          have HR1 : Hid (1 ≤ R1 ∧ R1 < 100000) := by show _ ∧ _; omega
          have hn2 := fun W => HNP.out G R1 HG.out HR1.out.1 W
          clear ht5 h5b h6b hG hR1 hyo
          go_upto_region 21 with (go_at_call 19; with_reducible refine (hn2 _).mono ?_; intro e w10 hh; obtain ⟨x10, hh1, S10, l10, b10⟩ := hh; subst hh1; have hB10 := B9.out.trans (b10.mono B9.out.size); have hz10 := (hB10.block _ (Array.getElem?_eq_some_iff.1 HZ.out).1).trans HZ.out; have HR10 := Lib.hid (HRP.out _ _ G R1 HG.out HR1.out (HWS.out.keep hB10) (Nat.le_trans HSZ.out (Nat.le_trans B9.out.size l10)) (Nat.le_trans B9.out.size l10) S10); have B10 := Lib.hid hB10; clear e13 e14 e15; obtain ⟨-, -, -, -, -, -, -, -, -, -, -, -, -, e13, e14, -⟩ := bes_cells hz10; clear S10 l10 b10 hz10 hB10 hn2 s0 s1 s2)
          go_wp2_with fail
          go_meet
          case rel => exact ⟨G, R1, by first | rfl | rw [k3], rfl, HR10.out, B10.out⟩
        · clear hyo
          go_wp2_with fail
          go_meet
          case rel => exact ⟨0, 0, rfl, rfl, HR9.out, B9.out⟩
      case rest =>
      obtain ⟨T, r, hc1, hc2, hrun, hbc⟩ := hcut
      subst hc1
      subst hc2
      unfold RunsTo at hrun
      generalize wc = w10 at *
      have HBC := Lib.hid hbc
      clear hbc
      go_upto_if 101 with (go_at_call 20; refine hrun.mono ?_; intro e w11 hh; obtain ⟨hh1, s', xr, h11, ht11, f11, l11⟩ := hh; subst hh1; have H11 := Lib.hid h11; have HTU := Lib.hid ht11; have HF11 := Lib.hid f11; have HL11 := Lib.hid l11; clear h11 ht11 f11 l11 hrun)
      have hfx : Fx wTy true xr wo w11 := ((below_fr HBC.out wTy true).fx xr).trans HF11.out
      have hbt := HT.out.base hfx HL11.out H11.out.below
      have hq11 := hfx.cells _ _ _ _ HQ.out rfl (by have h1 := (Array.getElem?_eq_some_iff.1 HQ.out).1; have h2 := HL11.out; omega)
      have HBT := Lib.hid hbt; have HQ11 := Lib.hid hq11
      clear hfx hbt hq11 HF11 HL11 HBC HT HQ HZ HWS HRO HRP HNP HOB HWF HSZ hyo
      go_wp2_with fail
      go_loopw [7, 13] (fun n v wr => ∃ (bb j : Nat), 1 ≤ bb ∧ bb ≤ 5 ∧ v = .int .i64 bb ∧ n = .int .i64 j ∧ (j : Int) = 4 * tsize bb - 8 ∧ Below w11.heap.size w11 wr) (fun _ v _ => 5 - (intOf v).toNat)
      case atStart => exact ⟨1, 0, by omega, by omega, rfl, rfl, by decide, Below.refl _ _⟩
      case round =>
        obtain ⟨bb, j, hb1, hb5, rfl, rfl, hj, hT⟩ := hrel
        by_cases hlt : bb < 5
        · have hlt' : (bb : Int) < 5 := by omega
          obtain ⟨ht2, ht3, ht4⟩ := tsize_two ⟨hb1, (by omega : bb ≤ 4)⟩
          have HJ := Lib.hid hj; have HT := Lib.hid hT; have HT2 := Lib.hid ht2; have HT34 := Lib.hid (And.intro ht3 ht4)
          have HBB : Hid (1 ≤ (bb : Int) ∧ (bb : Int) ≤ 4) := by show _ ∧ _; omega
          clear hj hT ht2 ht3 ht4
          obtain ⟨wq, rfl⟩ : ∃ wq : World, wq = wr := ⟨_, rfl⟩
          go_wp2_with fail
          go_loopw [7, 14] (fun n v wr => ∃ (k i : Nat), (k : Int) ≤ 4 * tsize bb ∧ v = .int .i64 k ∧ n = .int .i64 i ∧ (i : Int) = 4 * tsize bb - 8 + k ∧ Below w11.heap.size w11 wr) (fun _ v _ => 64 - (intOf v).toNat)
          case atStart => exact ⟨0, j, by have := HT34.out; omega, rfl, rfl, by have := HJ.out; omega, HT.out⟩
          case round =>
            clear HT HJ
            obtain ⟨k, i, hk, rfl, rfl, hi, hT⟩ := hrel
            have hwd := fun W => word_any bb 0 W
            have hsp := fun W => spots_any (tword bb 0) (tword_wf4 HBB.out) W
            rw [(as_one HBB.out).2.2] at hsp
            obtain ⟨A, hA⟩ : ∃ A : Int, A = 4 * tsize bb := ⟨_, rfl⟩
            rw [← hA] at hsp hk hi
            by_cases hkl : (k : Int) < A
            · have d1 : decide ((k : Int) < A) = true := decide_eq_true hkl
              obtain ⟨g1, g2, hi120⟩ := sp_at (s := s) HBB.out (k := k) (j := i) (by omega) (by omega)
              have d2 : decide ((i : Int) < 120) = true := decide_eq_true (by omega)
              have hk64 : k < 64 := by have := HT34.out; omega
              have hi120' : (i : Int) < 120 := by omega
              have hat := fun W => at_small bb k HBB.out (by omega) W
              obtain ⟨Q, hQ⟩ : ∃ Q : Int, Q = (k : Int) / 4 := ⟨_, rfl⟩
              obtain ⟨R', hR⟩ : ∃ R' : Int, R' = (k : Int) % 4 := ⟨_, rfl⟩
              rw [← hQ, ← hR] at hat g1 g2
              have HRW : Hid ((Lit.int .i64 R').wf = true) := by
                have : R' = 0 ∨ R' = 1 ∨ R' = 2 ∨ R' = 3 := by omega
                rcases this with h | h | h | h <;> rw [h] <;> rfl
              have htu := HTU.out bb Q R' HBB.out (by omega) (by omega)
              have hslot := slot_any H11.out bb Q R' HRW.out
              obtain ⟨tv, htv⟩ : ∃ tv, tv = tagOf (s'.val (tagsA bb Q)) R' := ⟨_, rfl⟩
              obtain ⟨iv, hiv⟩ : ∃ iv, iv = s'.val (itemA bb Q R') := ⟨_, rfl⟩
              rw [← g1, ← g2, ← htv, ← hiv] at htu
              have hsl : ∀ W, Below w11.heap.size w11 W → Calls Tryz.prog 16 #[.pointer (some ⟨B.wb, 0, none⟩), .agg #[.int .i64 bb, .int .i64 Q, .int .i64 R']] W fun e w' => e = .returned (.tuple #[.int .i64 tv, .int .u64 iv]) ∧ Below W.heap.size W w' := fun W hW => by
                rw [htv, hiv]; exact slot_any (H11.out.keep hW) bb Q R' HRW.out
              obtain ⟨e1, he1⟩ : ∃ e1 : Bool, e1 = (((bb : Int) == b && Q == u) && R' == sl) := ⟨_, rfl⟩
              have heq := fun W => eql_spot bb Q R' b u sl W
              have hnq := fun W => neq_spot bb Q R' b u sl W
              rw [← he1] at heq hnq
              have HSLT := Lib.hid hsl; have HTT := Lib.hid hT; have HI := Lib.hid hi; have HA := Lib.hid hA
              have HKA : Hid ((k : Int) < A) := hkl
              have HTV : Hid (if e1 = true then tv = T ∧ iv = r else tv = Tg s i ∧ iv = It s i) := by
                show if e1 = true then _ else _
                rw [he1]
                by_cases hc : (bb : Int) = b ∧ Q = u ∧ R' = sl
                · rw [if_pos hc] at htu
                  rw [if_pos (by simp [hc.1, hc.2.1, hc.2.2])]; exact htu
                · rw [if_neg hc] at htu
                  rw [if_neg (fun c => hc (by simpa [and_assoc] using c))]; exact htu
              clear hT g1 g2 hi hA hQ hR hkl hk htu hslot htv hiv hsl he1
              go_upto_region 34 with (first
                | (go_at_call 15; refine (hwd _).mono ?_; intro e w' hh; obtain ⟨hh1, hh2⟩ := hh; subst hh1; obtain rfl := hh2.symm)
                | (go_at_call 14; refine (hsp _).mono ?_; intro e w' hh; obtain ⟨hh1, hh2⟩ := hh; subst hh1; obtain rfl := hh2.symm)
                | (go_at_call 17; refine (hat _).mono ?_; intro e w12 hh; obtain ⟨hh1, b12⟩ := hh; subst hh1; have HT12 := Lib.hid (HTT.out.trans (b12.mono HTT.out.size)); have hba := below_alloc w12 (.cells #[.int .i64 bb, .int .i64 Q, .int .i64 R'] 42); have hza := heap_alloc_new w12 (.cells #[.int .i64 bb, .int .i64 Q, .int .i64 R'] 42); have HT13 := Lib.hid (HT12.out.trans (hba.mono HT12.out.size)); have hsl := HSLT.out _ HT13.out; have HZA := Lib.hid hza; clear b12 hat hba hza)
                | (go_at_call 16; refine hsl.mono ?_; intro e w14 hh; obtain ⟨hh1, b14⟩ := hh; subst hh1; have HT14 := Lib.hid (HT13.out.trans (b14.mono HT13.out.size)); have hz14 := (b14.block _ (Array.getElem?_eq_some_iff.1 HZA.out).1).trans HZA.out; obtain ⟨p0, p1, p2⟩ := spot3 _ _ _ _ _ _ hz14; obtain ⟨r0, r1, r2⟩ := spot3 _ _ _ _ _ _ ((HT14.out.block _ (Array.getElem?_eq_some_iff.1 HQ11.out).1).trans HQ11.out); obtain ⟨a1, a2⟩ := (HBT.out.keep HT14.out).cell i hi120; clear b14 hsl hz14))
              have htv := HTV.out
              clear HTV
              cases e1
              · rw [if_neg Bool.false_ne_true] at htv
                obtain ⟨rfl, rfl⟩ := htv
                go_wp2_with fail
                go_roundw
                case rel => exact ⟨k + 1, i + 1, by have h1 := HKA.out; have h2 := HA.out; omega, by go_num, by go_num, by have h1 := HI.out; have h2 := HA.out; omega, HT14.out⟩
                case measure => simp [intOf]; omega
              · rw [if_pos rfl] at htv
                obtain ⟨rfl, rfl⟩ := htv
                go_wp2_with fail
                go_roundw
                case rel => exact ⟨k + 1, i + 1, by have h1 := HKA.out; have h2 := HA.out; omega, by go_num, by go_num, by have h1 := HI.out; have h2 := HA.out; omega, HT14.out⟩
                case measure => simp [intOf]; omega
            · have d1 : decide ((k : Int) < A) = false := decide_eq_false hkl
              have HTT := Lib.hid hT
              have HE : Hid ((i : Int) = 4 * tsize ((bb + 1 : Nat) : Int) - 8) := by have := HT2.out; show _ = _; omega
              clear hT hi hk hkl hA
              go_wp2_with (first
                | (go_at_call 15; refine (hwd _).mono ?_; intro e w' hh; obtain ⟨hh1, hh2⟩ := hh; subst hh1; obtain rfl := hh2.symm)
                | (go_at_call 14; refine (hsp _).mono ?_; intro e w' hh; obtain ⟨hh1, hh2⟩ := hh; subst hh1; obtain rfl := hh2.symm))
              go_roundw
              case rel => exact ⟨bb + 1, i, by omega, by omega, by go_num, rfl, HE.out, HTT.out⟩
              case measure => simp [intOf]; omega
        · obtain rfl : bb = 5 := by omega
          have HTT := Lib.hid hT
          clear hT hj hb1 hb5 hlt
          go_wp2_with (go_at_call 11; refine (lives13 _).mono ?_; intro e w30 hh; obtain ⟨hh1, b30⟩ := hh; subst hh1; have B30 := Lib.hid b30; clear b30)
          go_ret
          have h1 := H11.out.below.trans (HTT.out.mono H11.out.below.size)
          exact ⟨rfl, HBB.out.trans ((h1.trans (B30.out.mono h1.size)).mono HBB.out.size)⟩
set_option maxRecDepth 10000 in
theorem walkPutsBeside {H1 : Type} (w : World) (enc : TypeId × Value → H1) (base : Nat) (v : Value) (d : DataW H1) (p : List MemPlace) (k : DataW.Trod enc Tryz.prog w 0 (fun _ => true) true 32 v d p) (o : Value.okWide Tryz.prog w .any base 32 v) :
    Calls Tryz.prog 3 #[v] w fun e w' => e = .returned (.bool true) ∧ Below w.heap.size w w' := by
  obtain ⟨y, rfl, hr, hy⟩ := bes_open k o
  exact beside_any y w hr hy
end Go.Proofs.YthehdcpjlddbpaaGreat
