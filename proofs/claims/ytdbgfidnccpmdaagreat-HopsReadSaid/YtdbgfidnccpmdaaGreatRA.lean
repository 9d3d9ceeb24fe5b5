/-
  Texts of this prover, merged: First, MarkW, Puts, PutsDo, PutsAll, PutsLives, Spots, GrowLives, HopDo, Hop, HopFn, HopRow, HopStep, HopRun.
-/
import Derived.Test.YtdbgfidnccpmdaaGreatP1
import Derived.Test.YtdbgfidnccpmdaaGreatMark
import Derived.Test.YtdbgfidnccpmdaaGreatP3
import Derived.Test.YtdbgfidnccpmdaaGreatPlacesMay
import Derived.Test.YtdbgfidnccpmdaaGreatRows
import Derived.Test.YtdbgfidnccpmdaaGreatLib
import Derived.Test.YtdbgfidnccpmdaaGreatCellsWords0
import Derived.Test.YtdbgfidnccpmdaaGreatRefNew
import Derived.Test.YtdbgfidnccpmdaaGreatSame
import Derived.Deep.DeepCutAuto
import Derived.Deep.CutBlock
import Derived.Maps.RangeWalk
import Derived.ChangeKeysEq
import Derived.Deep.MidRow
import Derived.Shelf.SlSortCmp.WholeK
import Derived.OwnWalk
import Derived.WalkMore
import Derived.Deep.RegionHeld2
/-
  A First that comes in: opened; is it great?
-/
namespace Go.Proofs.YtdbgfidnccpmdaaGreat
open Go.RowKit
set_option linter.unusedVariables false

/-- It may be read. -/
structure FstRd (w : World) (f : Fst) : Prop where
  its : Itms w (.slice f.ia f.its.length f.ic) f.its
  puts : Tri w f.pa f.pc f.puts
  sts : RWds w f.sa f.sc f.sts
theorem FstRd.below {w w' : World} {f : Fst} (h : FstRd w f) (hb : Below w.heap.size w w') : FstRd w' f := ⟨h.its.below hb (Nat.le_refl _), h.puts.below hb, h.sts.below hb⟩
theorem wf_u8 {x : Int} (h : (Lit.int .u8 x).wf = true) : 0 ≤ x ∧ x < 256 := by
  have hmin : IntKind.u8.min = 0 := rfl
  have hmax : IntKind.u8.max = 255 := rfl
  simp only [Lit.wf, Bool.and_eq_true, decide_eq_true_eq] at h; omega
theorem tri_of {w : World} {v : Value} (h : Leaf.holds w (.sl [.int .u8, .int .u8, .int .u8]) v) : ∃ (l : List (Int × Int × Int)) (a : Option Addr) (cap : Nat), v = .slice a l.length cap ∧ Tri w a cap l := by
  obtain ⟨l, a, cap, rfl, h1, h2, h3, h4, h5⟩ := recs_of h
  obtain ⟨m, hm, hp⟩ := list_of (fun i (x : Int × Int × Int) => l[i]? = some [.int .u8 x.1, .int .u8 x.2.1, .int .u8 x.2.2] ∧ (0 ≤ x.1 ∧ x.1 < 256) ∧ (0 ≤ x.2.1 ∧ x.2.1 < 256) ∧ (0 ≤ x.2.2 ∧ x.2.2 < 256)) l.length (fun i hi => by
    obtain ⟨c0, r, e0, g0, h⟩ := allHold_cons (h4 _ (List.getElem_mem hi))
    obtain ⟨c1, r, rfl, g1, h⟩ := allHold_cons h
    obtain ⟨c2, r, rfl, g2, h⟩ := allHold_cons h
    obtain rfl := allHold_nil h
    obtain ⟨z0, rfl, k0⟩ := holds_int g0
    obtain ⟨z1, rfl, k1⟩ := holds_int g1
    obtain ⟨z2, rfl, k2⟩ := holds_int g2
    exact ⟨(z0, z1, z2), by rw [List.getElem?_eq_getElem hi, e0], wf_u8 k0, wf_u8 k1, wf_u8 k2⟩)
  refine ⟨m, a, cap, by rw [hm], ⟨by omega, h2, fun x hx => ?_, ?_⟩⟩
  · obtain ⟨i, hi, rfl⟩ := List.mem_iff_getElem.1 hx
    exact (hp i hi).2
  · rcases h5 with rfl | ⟨b, off, rfl, h6⟩
    · exact .inl (List.length_eq_zero_iff.1 hm)
    · refine .inr ⟨b, off, rfl, fun i hi => ?_⟩
      have hi2 : i < l.length := by omega
      have hq := (hp i (by omega)).1
      rw [List.getElem?_eq_getElem hi2, Option.some.injEq] at hq
      have a0 := h6 i hi2 0 (by decide)
      have a1 := h6 i hi2 1 (by decide)
      have a2 := h6 i hi2 2 (by decide)
      rw [hq] at a0 a1 a2
      exact ⟨by simpa using a0, by simpa [Nat.add_assoc] using a1, by simpa [Nat.add_assoc] using a2⟩
theorem wds_of {w : World} {v : Value} (h : Leaf.holds w (.sl [.int .u64, .int .u64]) v) : ∃ (l : List (Int × Int)) (a : Option Addr) (cap : Nat), v = .slice a l.length cap ∧ RWds w a cap l := by
  obtain ⟨l, a, cap, rfl, h1, h2, h3, h4, h5⟩ := recs_of h
  obtain ⟨m, hm, hp⟩ := list_of (fun i (x : Int × Int) => l[i]? = some [.int .u64 x.1, .int .u64 x.2] ∧ (Lit.int .u64 x.1).wf = true ∧ (Lit.int .u64 x.2).wf = true) l.length (fun i hi => by
    obtain ⟨c0, r, e0, g0, h⟩ := allHold_cons (h4 _ (List.getElem_mem hi))
    obtain ⟨c1, r, rfl, g1, h⟩ := allHold_cons h
    obtain rfl := allHold_nil h
    obtain ⟨z0, rfl, k0⟩ := holds_int g0
    obtain ⟨z1, rfl, k1⟩ := holds_int g1
    exact ⟨(z0, z1), by rw [List.getElem?_eq_getElem hi, e0], k0, k1⟩)
  refine ⟨m, a, cap, by rw [hm], ⟨by omega, h2, fun x hx => ?_, ?_⟩⟩
  · obtain ⟨i, hi, rfl⟩ := List.mem_iff_getElem.1 hx
    exact (hp i hi).2
  · rcases h5 with rfl | ⟨b, off, rfl, h6⟩
    · exact .inl (List.length_eq_zero_iff.1 hm)
    · refine .inr ⟨b, off, rfl, fun i hi => ?_⟩
      have hi2 : i < l.length := by omega
      have hq := (hp i (by omega)).1
      rw [List.getElem?_eq_getElem hi2, Option.some.injEq] at hq
      have a0 := h6 i hi2 0 (by decide)
      have a1 := h6 i hi2 1 (by decide)
      rw [hq] at a0 a1
      exact ⟨by simpa using a0, by simpa [Nat.add_assoc] using a1⟩
def fstLeaves : List Leaf := [.int .i64, .int .i64, .int .i64, .int .i64, .int .i64, .bool, .sl itmLeaves, .sl [.int .u8, .int .u8, .int .u8], .sl [.int .u64, .int .u64], .int .i64]
theorem leaves_first : leaves Tryz.prog 5 28 = some fstLeaves := by kernel_rfl
theorem fst_of {w : World} {cs : List Value} (h : Leaf.allHold w fstLeaves cs) : ∃ f : Fst, cs = f.cells.toList ∧ FstRd w f := by
  unfold fstLeaves at h
  obtain ⟨c0, r, rfl, g0, h⟩ := allHold_cons h
  obtain ⟨c1, r, rfl, g1, h⟩ := allHold_cons h
  obtain ⟨c2, r, rfl, g2, h⟩ := allHold_cons h
  obtain ⟨c3, r, rfl, g3, h⟩ := allHold_cons h
  obtain ⟨c4, r, rfl, g4, h⟩ := allHold_cons h
  obtain ⟨c5, r, rfl, g5, h⟩ := allHold_cons h
  obtain ⟨c6, r, rfl, g6, h⟩ := allHold_cons h
  obtain ⟨c7, r, rfl, g7, h⟩ := allHold_cons h
  obtain ⟨c8, r, rfl, g8, h⟩ := allHold_cons h
  obtain ⟨c9, r, rfl, g9, h⟩ := allHold_cons h
  obtain rfl := allHold_nil h
  obtain ⟨z0, rfl, -⟩ := holds_int g0
  obtain ⟨z1, rfl, -⟩ := holds_int g1
  obtain ⟨z2, rfl, -⟩ := holds_int g2
  obtain ⟨z3, rfl, -⟩ := holds_int g3
  obtain ⟨z4, rfl, -⟩ := holds_int g4
  obtain ⟨z5, rfl⟩ := holds_bool g5
  obtain ⟨z9, rfl, -⟩ := holds_int g9
  obtain ⟨its, hi⟩ := itms_of g6
  obtain ⟨ia, ic, rfl, hi2⟩ := id hi
  obtain ⟨puts, pa, pc, rfl, hp⟩ := tri_of g7
  obtain ⟨sts, sa, sc, rfl, hs⟩ := wds_of g8
  exact ⟨⟨⟨z0, z1, z2, z3, z4⟩, z5, ia, ic, its, pa, pc, puts, sa, sc, sts, z9⟩, rfl, hi, hp, hs⟩

set_option maxRecDepth 10000 in
theorem fst_open {H : Type} {w : World} {enc : TypeId × Value → H} {base : Nat} {v : Value} {d : DataW H} {p : List MemPlace} (k : DataW.Trod enc Tryz.prog w 0 (fun _ => true) true 28 v d p) (o : Value.okWide Tryz.prog w .any base 28 v) : ∃ f : Fst, v = .agg f.cells ∧ FstRd w f := by
  obtain ⟨cs, rfl, -⟩ := Go.WideShapes.okWide_struct Tryz.underlying28 o
  obtain ⟨f, hf, hr⟩ := fst_of (opened leaves_first k)
  refine ⟨f, ?_, hr⟩
  have : cs.toList = f.cells.toList := hf
  rw [Array.toList_inj.1 this]
theorem fst_cells {W : World} {q : Nat} {f : Fst} (z : W.heap[q]? = some (.cells f.cells 28 (0, 0))) : W.cell? ⟨q, 0, none⟩ = some (.int .i64 f.c.bits) ∧ W.cell? ⟨q, 1, none⟩ = some (.int .i64 f.c.budget) ∧ W.cell? ⟨q, 2, none⟩ = some (.int .i64 f.c.tries) ∧ W.cell? ⟨q, 3, none⟩ = some (.int .i64 f.c.quantum) ∧ W.cell? ⟨q, 4, none⟩ = some (.int .i64 f.c.way) ∧ W.cell? ⟨q, 5, none⟩ = some (.bool f.gr) ∧ W.cell? ⟨q, 6, none⟩ = some (.slice f.ia f.its.length f.ic) ∧ W.cell? ⟨q, 7, none⟩ = some (.slice f.pa f.puts.length f.pc) ∧ W.cell? ⟨q, 8, none⟩ = some (.slice f.sa f.sts.length f.sc) ∧ W.cell? ⟨q, 9, none⟩ = some (.int .i64 f.ticks) :=
  ⟨hcell z 0, hcell z 1, hcell z 2, hcell z 3, hcell z 4, hcell z 5, hcell z 6, hcell z 7, hcell z 8, hcell z 9⟩

set_option maxRecDepth 100000 in
set_option maxHeartbeats 2000000 in
theorem great_any (f : Fst) (w : World) (hr : FstRd w f) : Calls Tryz.prog 10 #[.agg #[.int .i64 f.c.bits, .int .i64 f.c.budget, .int .i64 f.c.tries, .int .i64 f.c.quantum, .int .i64 f.c.way, .bool f.gr, .slice f.ia f.its.length f.ic, .slice f.pa f.puts.length f.pc, .slice f.sa f.sts.length f.sc, .int .i64 f.ticks]] w
    fun e w' => ∃ g, e = .returned (.bool g) ∧ Below w.heap.size w w' ∧ (g = false → FstIn w f ∧ ∀ y ∈ f.its, y.key.size ≤ 400 ∧ y.val.size ≤ 2000) := by
  have hB := below_alloc w (.cells f.cells 28)
  have z := heap_alloc_new w (.cells f.cells 28)
  have HR := Lib.hid hr; have HB := Lib.hid hB
  clear hr hB
  go_enter Tryz.func10, Tryz.ntmps10
  go_upto_region 1 with (fail)
  change Code.wp _ _ _ _ (w.alloc (.cells f.cells 28))
  generalize w.alloc (.cells f.cells 28) = w1 at *
  have c6 : w1.cell? ⟨w.heap.size, 6, none⟩ = some (.slice f.ia f.its.length f.ic) := hcell z 6
  have c7 : w1.cell? ⟨w.heap.size, 7, none⟩ = some (.slice f.pa f.puts.length f.pc) := hcell z 7
  have c8 : w1.cell? ⟨w.heap.size, 8, none⟩ = some (.slice f.sa f.sts.length f.sc) := hcell z 8
  clear z
  by_cases h1 : 40 < f.its.length
  · have d1 : decide ((40 : Int) < f.its.length) = true := by simp; omega
    go_wp2
    go_ret
    exact ⟨true, rfl, HB.out, fun h => by cases h⟩
  have d1 : decide ((40 : Int) < f.its.length) = false := by simp; omega
  by_cases h2 : 60 < f.puts.length
  · have d2 : decide ((60 : Int) < f.puts.length) = true := by simp; omega
    go_wp2
    go_ret
    exact ⟨true, rfl, HB.out, fun h => by cases h⟩
  have d2 : decide ((60 : Int) < f.puts.length) = false := by simp; omega
  by_cases h3 : 60 < f.sts.length
  · have d3 : decide ((60 : Int) < f.sts.length) = true := by simp; omega
    go_wp2
    go_ret
    exact ⟨true, rfl, HB.out, fun h => by cases h⟩
  have d3 : decide ((60 : Int) < f.sts.length) = false := by simp; omega
  have HN : Hid (f.its.length ≤ 40 ∧ f.puts.length ≤ 60 ∧ f.sts.length ≤ 60) := ⟨by omega, by omega, by omega⟩
  clear h2 h3
  go_wp2_with fail
  clear d1 d2 d3
  go_loopw [3] (fun i wr => ∃ k : Nat, k ≤ f.its.length ∧ i = .int .i64 k ∧ w1 = wr ∧ ∀ j, (hj : j < f.its.length) → j < k → (f.its[j]).key.size ≤ 400 ∧ (f.its[j]).val.size ≤ 2000) (fun i _ => f.its.length - (intOf i).toNat)
  case atStart => exact ⟨0, by omega, rfl, rfl, fun j _ h => by omega⟩
  case round =>
    obtain ⟨k, hk, rfl, rfl, hs⟩ := hrel
    by_cases hlt : k < f.its.length
    · have hlt' : (k : Int) < f.its.length := by omega
      obtain ⟨b, off, y, hia, hy, q0, q1, q2, q3, q4, q5⟩ := Itms.cell HR.out.its k hlt
      have hg : b < w.heap.size := World.block_lt_of_cell? _ _ q0
      have q0 := (HB.out.cell (p := ⟨b, _, none⟩) hg).trans q0
      have q1 := (HB.out.cell (p := ⟨b, _, none⟩) hg).trans q1
      rw [hia] at c6
      have hyk : f.its[k] = y := by rw [List.getElem?_eq_getElem hlt] at hy; exact Option.some.inj hy
      have HS := Lib.hid hs; have HY := Lib.hid hyk
      clear hs hy hyk hia hg q2 q3 q4 q5
      by_cases hk1 : 400 < y.key.size
      · have e1 : decide ((400 : Int) < y.key.size) = true := by simp; omega
        go_wp2
        go_ret
        exact ⟨true, rfl, HB.out, fun h => by cases h⟩
      have e1 : decide ((400 : Int) < y.key.size) = false := by simp; omega
      by_cases hv1 : 2000 < y.val.size
      · have e2 : decide ((2000 : Int) < y.val.size) = true := by simp; omega
        go_wp2
        go_ret
        exact ⟨true, rfl, HB.out, fun h => by cases h⟩
      have e2 : decide ((2000 : Int) < y.val.size) = false := by simp; omega
      have HYS : Hid (y.key.size ≤ 400 ∧ y.val.size ≤ 2000) := ⟨by omega, by omega⟩
      clear hk1 hv1
      go_wp2
      go_roundw
      case rel => exact ⟨k + 1, by omega, by go_num, by first | rfl | trivial, fun j hj hjk => by
        rcases Nat.lt_or_ge j k with h | h
        · exact HS.out j hj h
        · obtain rfl : j = k := by omega
          rw [HY.out]; exact HYS.out⟩
      case measure => simp [intOf]; omega
    · obtain rfl : k = f.its.length := by omega
      have HS := Lib.hid hs
      clear hs
      go_wp2
      go_ret
      refine ⟨false, rfl, HB.out, fun _ => ?_⟩
      have hall : ∀ y ∈ f.its, y.key.size ≤ 400 ∧ y.val.size ≤ 2000 := fun y hy => by
        obtain ⟨i, hi, rfl⟩ := List.mem_iff_getElem.1 hy
        exact HS.out i hi hi
      exact ⟨⟨HR.out.its, HR.out.puts, HR.out.sts, HN.out.1, HN.out.2.1, HN.out.2.2, fun y hy => by have := (hall y hy).1; omega⟩, hall⟩
end Go.Proofs.YtdbgfidnccpmdaaGreat

/-
  A Mark, in a frame by types; its step in a world.
-/
namespace Go.Proofs.YtdbgfidnccpmdaaGreat
open Go.RowKit Go.Maps
set_option linter.unusedVariables false

theorem MarkAt.lt {w : World} {mb : Nat} {xs : List Int} (h : MarkAt w mb xs) : mb < w.heap.size := by obtain ⟨v, h1, _⟩ := h; exact (Array.getElem?_eq_some_iff.1 h1).1
theorem Sl.fr {K : TypeId → Bool} {mp : Bool} {w w' : World} {v : Value} {xs : List Int} (h : Sl w v xs) (hf : Fr K mp w w') (h2 : K 59 = false) : Sl w' v xs := by
  rcases h with h | ⟨g, off, cur, rfl, h3, h4⟩
  · exact .inl h
  · exact .inr ⟨g, off, cur, rfl, hf.cells _ _ _ _ h3 h2, h4⟩
theorem MarkAt.fr {K : TypeId → Bool} {mp : Bool} {w w' : World} {mb : Nat} {xs : List Int} (h : MarkAt w mb xs) (hf : Fr K mp w w') (h1 : K 322 = false) (h2 : K 59 = false) : MarkAt w' mb xs := by
  obtain ⟨v, h3, h4⟩ := h
  exact ⟨v, hf.cells _ _ _ _ h3 h1, h4.fr hf h2⟩
theorem ws_set {w0 w : World} {B : WB} {V : WV} {s : CS} {b o : Nat} {cs : Array Value} {T : TypeId} (h : WS w0 w B V s) (hb : w.heap[b]? = some (.cells cs T (0, 0))) (hT : wTy T = false) (hlo : w0.heap.size ≤ b) (v : Value) : WS w0 (w.setCell ⟨b, o, none⟩ v) B V s :=
  h.fr (set_ty hb o v) (fun X hX => by cases hXT : (X == T); rfl; rw [beq_iff_eq] at hXT; subst hXT; rw [hX] at hT; cases hT) (set_below h.below h.below.size hlo o v)
set_option maxHeartbeats 1000000 in
theorem wmstep {w0 w : World} {B : WB} {V : WV} {s : CS} {mb : Nat} {a : Int} {r : List Int} (h : WS w0 w B V s) (hr : s.room) (hM : MarkAt w mb (a :: r)) (hlo : w0.heap.size ≤ mb) (ha : (Lit.int .u64 a).wf = true) :
    Calls Tryz.prog 304 #[.pointer (some ⟨mb, 0, none⟩), .pointer (some ⟨B.wb, 0, none⟩)] w fun e w' => e = .returned (.bool (decide (r = []))) ∧ WS w0 w' B V (s.acc 4 a (wu (s.val a + 1))) ∧ MarkAt w' mb r ∧ Fx wTy true mb w w' := by
  have ho := over_any hM
  rw [show decide (a :: r = []) = false from rfl] at ho
  obtain ⟨v, hm, hs⟩ := hM
  obtain ⟨g, off, rfl, q0, hml, hg, ht⟩ := hs.at0
  have HT := Lib.hid (Sl.tail hg ht)
  clear hg ht
  have m0 : w.cell? ⟨mb, 0, none⟩ = some (.slice (some ⟨g, off, none⟩) (r.length + 1) (r.length + 1)) := by simp [World.cell?, hm]
  have c0 := h.c0
  have x0 := fun st : ExtW w => st.cell c0
  have x1 := fun st : ExtW w => st.cell m0
  have x2 := fun st : ExtW w => st.cell q0
  unfold maxLen at hml
  have H := Lib.hid h; have HR := Lib.hid hr; have HM := Lib.hid hm; have HS := Lib.hid hs; have HA := Lib.hid ha
  clear h hr hm hs ha
  go_enter Tryz.func304, Tryz.ntmps304
  go_wp2_with (go_at_call 303; refine ho.mono ?_; rintro e w1 ⟨rfl, hw⟩; obtain rfl := hw.symm; clear ho)
  refine wp_region_ext_tail 10 (by kernel_rfl) (by kernel_rfl) ?_
  simp only [List.take_succ_cons, List.take_zero, List.drop_succ_cons, List.drop_zero]
  repeat (go_big_quiet_step (fail))
  refine wpQuiet_nil ?_
  rintro W ⟨⟨W2, hW⟩, rfl⟩
  clear x0 x1 x2 c0 m0 q0
  have HW := Lib.hid hW
  have h1 := H.out.keep hW
  have HM1 := Lib.hid ((hW.block mb (Array.getElem?_eq_some_iff.1 HM.out).1).trans HM.out); have HS1 := Lib.hid (HS.out.keep hW)
  clear hW
  go_wp2_with (go_at_call 305; refine (h1.add HR.out a HA.out 1).mono ?_; rintro e w2 ⟨rfl, h2, r2⟩; have HM2 := Lib.hid (r2.cells _ _ _ _ HM1.out rfl); have HS2 := Lib.hid (HS1.out.fr r2 rfl); have H2 := Lib.hid h2; have R2 := Lib.hid r2; clear h1 h2 r2)
  have m0 : w2.cell? ⟨mb, 0, none⟩ = some (.slice (some ⟨g, off, none⟩) (r.length + 1) (r.length + 1)) := by have := HM2.out; simp [World.cell?, this]
  have m1 : w2.frozen? ⟨mb, 0, none⟩ = false := by have := HM2.out; simp [World.frozen?, this]
  have x1 := fun st : ExtW w2 => st.cell m0
  refine wp_region_ext_tail 18 (by kernel_rfl) (by kernel_rfl) ?_
  simp only [List.take_succ_cons, List.take_zero, List.drop_succ_cons, List.drop_zero]
  repeat (go_big_quiet_step (fail))
  refine wpQuiet_nil ?_
  rintro W3 ⟨⟨W4, hW4⟩, rfl⟩
  clear x1
  obtain ⟨ad, had⟩ : ∃ ad, ad = (if r = [] then some (⟨g, off, none⟩ : Addr) else some ⟨g, off + 1, none⟩) := ⟨_, rfl⟩
  have T3 := (((HT.out.keep HW.out).fr R2.out rfl).keep hW4)
  rw [← had] at T3
  simp only [← had]
  have HT3 := Lib.hid T3
  have H3 := Lib.hid (H2.out.keep hW4)
  have HM3 := Lib.hid ((hW4.block mb (Array.getElem?_eq_some_iff.1 HM2.out).1).trans HM2.out)
  have HW4 := Lib.hid hW4
  clear T3 had hW4 m1 m0 HT HS HS1 HS2
  have m0 : W3.cell? ⟨mb, 0, none⟩ = some (.slice (some ⟨g, off, none⟩) (r.length + 1) (r.length + 1)) := by have := HM3.out; simp [World.cell?, this]
  have m1 : W3.frozen? ⟨mb, 0, none⟩ = false := by have := HM3.out; simp [World.frozen?, this]
  have hM5 : MarkAt (W3.setCell ⟨mb, 0, none⟩ (.slice ad r.length r.length)) mb r := by
    have hsame := setCell_same (o := 0) HM3.out (.slice ad r.length r.length)
    refine ⟨_, hsame, ?_⟩
    rcases HT3.out with h | ⟨g2, o2, cur, he, h1, h2⟩
    · exact .inl h
    · refine .inr ⟨g2, o2, cur, he, (Below.heap_setCell _ _ _ _ fun c => ?_).trans h1, h2⟩
      simp only at c; subst c
      have := h1.symm.trans HM3.out; simp only [Option.some.injEq, Obj.cells.injEq] at this; exact absurd this.2.1 (by decide)
  have hov := over_any hM5
  obtain ⟨d, hd⟩ : ∃ d, d = decide (r = []) := ⟨_, rfl⟩
  rw [← hd] at hov
  have HD := Lib.hid hd
  clear hd
  have HM5 := Lib.hid hM5
  clear hM5
  go_wp2_with (go_at_call 303; refine hov.mono ?_; rintro e w6 ⟨rfl, hw⟩; subst hw)
  go_ret
  exact ⟨conf_b' HD.out, ws_set H3.out HM3.out rfl hlo _, HM5.out, (((below_fr HW.out _ _).trans (R2.out.trans (below_fr HW4.out _ _))).fx mb).trans (set_fx _ _ _ _ _ _)⟩
theorem plc_blk1 {w : World} {n : Nat} {a0 a1 : Int} (h : w.heap[n]? = some (.cells #[.int .i64 a0, .int .i64 a1] 41 (0, 0))) : Plc w (some ⟨n, 0, none⟩) 1 [(a0, a1)] := by
  refine ⟨Nat.le_refl _, by unfold maxLen; decide, fun h => (by cases h), .inr ⟨_, 0, rfl, fun i hi => ?_⟩⟩
  obtain rfl : i = 0 := by simp at hi; exact hi
  exact ⟨hcell h 0, hcell h 1⟩
theorem plc_blk2 {w : World} {n : Nat} {a0 a1 b0 b1 : Int} (h : w.heap[n]? = some (.cells #[.int .i64 a0, .int .i64 a1, .int .i64 b0, .int .i64 b1] 41 (0, 0))) : Plc w (some ⟨n, 0, none⟩) 2 [(a0, a1), (b0, b1)] := by
  refine ⟨Nat.le_refl _, by unfold maxLen; decide, fun h => (by cases h), .inr ⟨_, 0, rfl, fun i hi => ?_⟩⟩
  rcases i with _ | _ | i
  · exact ⟨hcell h 0, hcell h 1⟩
  · exact ⟨hcell h 2, hcell h 3⟩
  · simp at hi; omega
end Go.Proofs.YtdbgfidnccpmdaaGreat

/-
  Puts and Outs of a slot: their beginnings, their lines.
-/
namespace Go.Proofs.YtdbgfidnccpmdaaGreat
open Go.RowKit
set_option linter.unusedVariables false

/-- A slot that is changed. -/
structure SL where
  tg : Int
  it : Int
  at_ : Int
  x : Int
  ln : Int
abbrev SL.cs (s : SL) (rest : List Value) : Array Value := (Value.int .u64 s.tg :: .int .u64 s.it :: .int .i64 s.at_ :: .int .u64 s.x :: .int .i64 s.ln :: rest).toArray
def SlotAt (w : World) (b : Nat) (T : TypeId) (s : SL) (rest : List Value) : Prop := w.heap[b]? = some (.cells (s.cs rest) T (0, 0))
section
variable {w w' : World} {b : Nat} {T : TypeId} {s : SL} {rest : List Value} (h : SlotAt w b T s rest)
include h
theorem SlotAt.lt : b < w.heap.size := (Array.getElem?_eq_some_iff.1 h).1
theorem SlotAt.below (hb : Below w.heap.size w w') : SlotAt w' b T s rest := (hb.block _ h.lt).trans h
theorem SlotAt.c0 : w.cell? ⟨b, 0, none⟩ = some (.int .u64 s.tg) := by rw [hcell h 0]; simp
theorem SlotAt.c1 : w.cell? ⟨b, 1, none⟩ = some (.int .u64 s.it) := by rw [hcell h 1]; simp
theorem SlotAt.c2 : w.cell? ⟨b, 2, none⟩ = some (.int .i64 s.at_) := by rw [hcell h 2]; simp
theorem SlotAt.c3 : w.cell? ⟨b, 3, none⟩ = some (.int .u64 s.x) := by rw [hcell h 3]; simp
theorem SlotAt.c4 : w.cell? ⟨b, 4, none⟩ = some (.int .i64 s.ln) := by rw [hcell h 4]; simp
theorem SlotAt.set3 (x : Int) : SlotAt (w.setCell ⟨b, 3, none⟩ (.int .u64 x)) b T { s with x := x } rest := by
  have := setCell_same h 3 (.int .u64 x)
  simpa [SlotAt, SL.cs] using this
theorem SlotAt.set4 (x : Int) : SlotAt (w.setCell ⟨b, 4, none⟩ (.int .i64 x)) b T { s with ln := x } rest := by
  have := setCell_same h 4 (.int .i64 x)
  simpa [SlotAt, SL.cs] using this
end
def sof (b u s : Int) : SL := if itemA b u s = 0 then ⟨0, 0, 0, 0, 0⟩ else ⟨tagsA b u, itemA b u s, s, 0, 0⟩
abbrev SL.agg (s : SL) : Value := .agg #[.int .u64 s.tg, .int .u64 s.it, .int .i64 s.at_, .int .u64 s.x, .int .i64 s.ln]
theorem box5s (w : World) (a b c d e : Value) (T : TypeId) : ∀ o, (w.alloc (.cells #[a, b, c, d, e] T)).cell? ⟨w.heap.size, o, none⟩ = (#[a, b, c, d, e] : Array Value)[o]? := fun o => by
  have := heap_alloc_new w (.cells #[a, b, c, d, e] T)
  unfold World.cell?; simp only; rw [this]; rfl

theorem sfive_below {w w1 : World} {q : Nat} {v0 v1 v2 v3 v4 : Value} (h : Below w.heap.size w w1) (hq : w.heap.size ≤ q) : Below w.heap.size w (((((w1.setCell ⟨q, 0, none⟩ v0).setCell ⟨q, 1, none⟩ v1).setCell ⟨q, 2, none⟩ v2).setCell ⟨q, 3, none⟩ v3).setCell ⟨q, 4, none⟩ v4) :=
  below_set (below_set (below_set (below_set (below_set h hq) hq) hq) hq) hq
theorem sfive_set {w1 : World} {q : Nat} {a b c d e : Value} {T : TypeId} (h : w1.heap[q]? = some (.cells #[a, b, c, d, e] T (0, 0))) (v0 v1 v2 v3 v4 : Value) :
    (((((w1.setCell ⟨q, 0, none⟩ v0).setCell ⟨q, 1, none⟩ v1).setCell ⟨q, 2, none⟩ v2).setCell ⟨q, 3, none⟩ v3).setCell ⟨q, 4, none⟩ v4).heap[q]? = some (.cells #[v0, v1, v2, v3, v4] T (0, 0)) :=
  setCell_same (setCell_same (setCell_same (setCell_same (setCell_same h 0 v0) 1 v1) 2 v2) 3 v3) 4 v4
set_option maxRecDepth 10000 in
set_option maxHeartbeats 1000000 in
theorem pof_any (b u s : Int) (hs : (Lit.int .i64 s).wf = true) (w : World) : Calls Tryz.prog 178 #[.agg #[.int .i64 b, .int .i64 u, .int .i64 s]] w fun e w' => e = .returned (sof b u s).agg ∧ Below w.heap.size w w' := by
  have hit := fun w => item_any b u s hs w
  have hitx := fun {w : World} (st : ExtW w) => item_any b u s hs st.val
  have htg := fun {w : World} (st : ExtW w) => tags_any b u st.val
  have hB1 : Below w.heap.size w ((w.alloc (.cells #[.int .i64 b, .int .i64 u, .int .i64 s] 43)).alloc (.cells #[.int .u64 0, .int .u64 0, .int .i64 0, .int .u64 0, .int .i64 0] 315)) :=
    bnext (below_alloc w _) (below_alloc _ _)
  have hz : ∀ o, ((w.alloc (.cells #[.int .i64 b, .int .i64 u, .int .i64 s] 43)).alloc (.cells #[.int .u64 0, .int .u64 0, .int .i64 0, .int .u64 0, .int .i64 0] 315)).cell? ⟨w.heap.size, o, none⟩ = (#[.int .i64 b, .int .i64 u, .int .i64 s] : Array Value)[o]? := fun o =>
    ((below_alloc _ _).cell (p := ⟨w.heap.size, o, none⟩) (by simp)).trans (box3 w b u s _ o)
  have hq : ((w.alloc (.cells #[.int .i64 b, .int .i64 u, .int .i64 s] 43)).alloc (.cells #[.int .u64 0, .int .u64 0, .int .i64 0, .int .u64 0, .int .i64 0] 315)).heap[w.heap.size + 1]? = some (.cells #[.int .u64 0, .int .u64 0, .int .i64 0, .int .u64 0, .int .i64 0] 315 (0, 0)) := by
    simpa using heap_alloc_new (w.alloc (.cells #[.int .i64 b, .int .i64 u, .int .i64 s] 43)) (.cells #[.int .u64 0, .int .u64 0, .int .i64 0, .int .u64 0, .int .i64 0] 315)
  have hsz : ((w.alloc (.cells #[.int .i64 b, .int .i64 u, .int .i64 s] 43)).alloc (.cells #[.int .u64 0, .int .u64 0, .int .i64 0, .int .u64 0, .int .i64 0] 315)).heap.size = w.heap.size + 2 := by simp
  have hZ := Lib.hid hz; have HQ := Lib.hid hq; have HB1 := Lib.hid hB1; have HSZ := Lib.hid hsz
  clear hz hq hB1 hsz
  unfold sof
  cases h0 : (itemA b u s == 0)
  · rw [if_neg (beq_eq_false_iff_ne.1 h0)]
    generalize itemA b u s = I at *
    generalize tagsA b u = G at *
    go_enter Tryz.func178, Tryz.ntmps178
    go_upto_region 3 with (go_at_call 144; refine (hit _).mono ?_; rintro e w1 ⟨rfl, b1⟩; have hq1 := (b1.block _ (by rw [HSZ.out]; omega)).trans HQ.out; have hz0 := (b1.cell (p := ⟨w.heap.size, 0, none⟩) (by rw [HSZ.out]; show w.heap.size < _; omega)).trans (hZ.out 0); have hz1 := (b1.cell (p := ⟨w.heap.size, 1, none⟩) (by rw [HSZ.out]; show w.heap.size < _; omega)).trans (hZ.out 1); have hz2 := (b1.cell (p := ⟨w.heap.size, 2, none⟩) (by rw [HSZ.out]; show w.heap.size < _; omega)).trans (hZ.out 2); have HB2 := Lib.hid (HB1.out.trans (b1.mono HB1.out.size)); clear b1)
    have x0 := fun st : ExtW w1 => st.cell hz0
    have x1 := fun st : ExtW w1 => st.cell hz1
    have x2 := fun st : ExtW w1 => st.cell hz2
    have HQ1 := Lib.hid hq1
    clear hz0 hz1 hz2 hq1 hit
    refine wp_region_ext_tail 8 (by kernel_rfl) (by kernel_rfl) ?_
    simp only [List.take_succ_cons, List.take_zero, List.drop_succ_cons, List.drop_zero]
    repeat (go_big_quiet_step (first | (go_at_call 144; with_reducible refine calls_ext (hitx _)) | (go_at_call 119; with_reducible refine calls_ext (htg _))))
    refine wpQuiet_nil ?_
    rintro W ⟨⟨W2, hW⟩, rfl⟩
    have hq1 := (hW.block _ (Array.getElem?_eq_some_iff.1 HQ1.out).1).trans HQ1.out
    have y0 := hcell hq1 0; have y1 := hcell hq1 1; have y2 := hcell hq1 2; have y3 := hcell hq1 3; have y4 := hcell hq1 4
    have yf := hfrz hq1
    have HW := Lib.hid (HB2.out.trans (hW.mono HB2.out.size))
    have hq5 := sfive_set hq1 (.int .u64 G) (.int .u64 I) (.int .i64 s) (.int .u64 0) (.int .i64 0)
    have hB5 := sfive_below (v0 := .int .u64 G) (v1 := .int .u64 I) (v2 := .int .i64 s) (v3 := .int .u64 0) (v4 := .int .i64 0) HW.out (show w.heap.size ≤ w.heap.size + 1 by omega)
    clear x0 x1 x2 hW hq1
    go_wp2
    generalize World.setCell _ _ _ = W5 at *
    have k0 := hcell hq5 0; have k1 := hcell hq5 1; have k2 := hcell hq5 2; have k3 := hcell hq5 3; have k4 := hcell hq5 4
    simp only [List.getElem?_toArray, List.getElem?_cons_zero, List.getElem?_cons_succ] at k0 k1 k2 k3 k4
    refine bodyPost_ret (v := .agg #[_, _, _, _, _]) (by simp [results, Tryz.results178, go_sem, k0, k1, k2, k3, k4]) rfl ⟨rfl, hB5⟩
  · rw [if_pos (beq_iff_eq.1 h0)]
    rw [beq_iff_eq.1 h0] at hit
    clear hitx htg h0
    go_enter Tryz.func178, Tryz.ntmps178
    go_wp2_with (go_at_call 144; refine (hit _).mono ?_; rintro e w1 ⟨rfl, b1⟩; have hq1 := (b1.block _ (by rw [HSZ.out]; omega)).trans HQ.out; have y0 := hcell hq1 0; have y1 := hcell hq1 1; have y2 := hcell hq1 2; have y3 := hcell hq1 3; have y4 := hcell hq1 4; have yf := hfrz hq1; have hq5 := sfive_set hq1 (.int .u64 0) (.int .u64 0) (.int .i64 0) (.int .u64 0) (.int .i64 0); have hB5 := sfive_below (v0 := .int .u64 0) (v1 := .int .u64 0) (v2 := .int .i64 0) (v3 := .int .u64 0) (v4 := .int .i64 0) (HB1.out.trans (b1.mono HB1.out.size)) (show w.heap.size ≤ w.heap.size + 1 by omega); clear hq1 b1)
    generalize World.setCell _ _ _ = W5 at *
    have k0 := hcell hq5 0; have k1 := hcell hq5 1; have k2 := hcell hq5 2; have k3 := hcell hq5 3; have k4 := hcell hq5 4
    simp only [List.getElem?_toArray, List.getElem?_cons_zero, List.getElem?_cons_succ] at k0 k1 k2 k3 k4
    refine bodyPost_ret (v := .agg #[_, _, _, _, _]) (by simp [results, Tryz.results178, go_sem, k0, k1, k2, k3, k4]) rfl ⟨rfl, hB5⟩

theorem newput_in (b u s g r : Int) (hs : (Lit.int .i64 s).wf = true) (hg : 1 ≤ g ∧ g ≤ 255) (hr : 1 ≤ r) (w : World) : Calls Tryz.prog 103 #[.agg #[.int .i64 b, .int .i64 u, .int .i64 s], .int .i64 g, .int .i64 r] w
    fun e w' => ∃ q, e = .returned (.pointer (some ⟨q, 0, none⟩)) ∧ SlotAt w' q 317 (sof b u s) [.int .i64 g, .int .i64 r] ∧ w.heap.size ≤ q ∧ Below w.heap.size w w' := by
  have ho := fun w => pof_any b u s hs w
  have h1 : decide (g < 1) = false := by simp; omega
  have h2 : decide (255 < g) = false := by simp; omega
  have h3 : decide (r < 1) = false := by simp; omega
  clear hg hr
  go_enter Tryz.func103, Tryz.ntmps103
  go_wp2_with (go_at_call 178; refine (ho _).mono ?_; rintro e w1 ⟨rfl, b1⟩)
  go_ret
  have hB1 := bnext (below_alloc w _) b1
  exact ⟨_, rfl, heap_alloc_new w1 _, hB1.size, bnext hB1 (below_alloc w1 _)⟩
theorem newout_any (b u s : Int) (hs : (Lit.int .i64 s).wf = true) (w : World) : Calls Tryz.prog 104 #[.agg #[.int .i64 b, .int .i64 u, .int .i64 s]] w
    fun e w' => ∃ q, e = .returned (.pointer (some ⟨q, 0, none⟩)) ∧ SlotAt w' q 320 (sof b u s) [] ∧ w.heap.size ≤ q ∧ Below w.heap.size w w' := by
  have ho := fun w => pof_any b u s hs w
  go_enter Tryz.func104, Tryz.ntmps104
  go_wp2_with (go_at_call 178; refine (ho _).mono ?_; rintro e w1 ⟨rfl, b1⟩)
  go_ret
  have hB1 := bnext (below_alloc w _) b1
  exact ⟨_, rfl, heap_alloc_new w1 _, hB1.size, bnext hB1 (below_alloc w1 _)⟩

section
variable {w0 w : World} {B : WB} {V : WV} {s : CS} {b : Nat} {T : TypeId} {σ : SL} {rest : List Value} (h : WS w0 w B V s) (hr : s.room) (hS : SlotAt w b T σ rest) (hT : wTy T = false) (hlo : w0.heap.size ≤ b) (hg : (Lit.int .u64 σ.tg).wf = true)
include h hr hS hT hlo hg
set_option maxRecDepth 10000 in
set_option maxHeartbeats 1000000 in
theorem slot_load : Calls Tryz.prog 293 #[.pointer (some ⟨b, 0, none⟩), .pointer (some ⟨B.wb, 0, none⟩)] w fun e w' => e = .returned (.tuple #[]) ∧ WS w0 w' B V (s.acc 1 σ.tg (s.val σ.tg)) ∧ SlotAt w' b T { σ with x := s.val σ.tg } rest ∧ Fx wTy true b w w' := by
  have hld : ∀ W, Below w.heap.size w W → Calls Tryz.prog 148 #[.pointer (some ⟨B.cb, 0, none⟩), .int .u64 σ.tg] W fun e w' => e = .returned (.int .u64 (s.val σ.tg)) ∧ WS w0 w' B V (s.acc 1 σ.tg (s.val σ.tg)) ∧ Fr wTy true W w' := fun W hW => (h.keep hW).load hr _ hg
  have hd0 := h.keep (Below.refl w.heap.size w).drew
  have y0 : w.drew.cell? ⟨B.wb, 0, none⟩ = some (.pointer (some ⟨B.cb, 0, none⟩)) := hd0.c0
  have y1 : w.drew.cell? ⟨b, 0, none⟩ = some (.int .u64 σ.tg) := SlotAt.c0 (w := w.drew) hS
  have hlw := hld w.drew (Below.refl w.heap.size w).drew
  have HS := Lib.hid hS
  clear hd0 h hr hS hg hld
  go_enter Tryz.func293, Tryz.ntmps293
  go_wp2_with fail
  go_region_with (go_at_call 148; refine hlw.mono ?_; rintro e w2 ⟨rfl, h2, f2⟩; have hs2 : SlotAt w2 b T σ rest := f2.cells _ _ _ _ HS.out hT; have z3 := hs2.c3; have zf := hfrz hs2 3; have H2 := Lib.hid h2; have F2 := Lib.hid f2; have HS2 := Lib.hid hs2; clear h2 f2 hs2 y0 y1 hlw)
  all_goals go_wp2
  all_goals go_end0
  all_goals exact ⟨rfl, set_take (o := 3) H2.out HS2.out hT hlo _, HS2.out.set3 _, (show Fx wTy true b w w2 from ⟨F2.out.size, fun k cs T fr h1 h2 _ => F2.out.cells k cs T fr h1 h2, fun h => by cases h⟩).trans (set_fx _ _ _ _ _ _)⟩
omit hT hlo in
set_option maxRecDepth 10000 in
set_option maxHeartbeats 1000000 in
theorem slot_store (g : Int) (hx : 0 ≤ σ.x ∧ σ.x < 18446744073709551616) : Calls Tryz.prog 294 #[.pointer (some ⟨b, 0, none⟩), .pointer (some ⟨B.wb, 0, none⟩), .int .i64 g] w fun e w' => e = .returned (.tuple #[]) ∧ WS w0 w' B V (s.acc 2 σ.tg (TagPure.withOf σ.x σ.at_ g)) ∧ Fr wTy true w w' := by
  have hst : ∀ W, Below w.heap.size w W → Calls Tryz.prog 91 #[.pointer (some ⟨B.cb, 0, none⟩), .int .u64 σ.tg, .int .u64 (TagPure.withOf σ.x σ.at_ g)] W fun e w' => e = .returned (.int .u64 (s.val σ.tg)) ∧ WS w0 w' B V (s.acc 2 σ.tg (TagPure.withOf σ.x σ.at_ g)) ∧ Fr wTy true W w' := fun W hW => (h.keep hW).store hr _ hg _ (withOf_wf _ _ _ hx.1 hx.2)
  have hwx := fun {w : World} (st : ExtW w) => with_any σ.x σ.at_ g st.val hx.1 hx.2
  have x0 := fun st : ExtW w => st.cell h.c0
  have x1 := fun st : ExtW w => st.cell hS.c0
  have x2 := fun st : ExtW w => st.cell hS.c2
  have x3 := fun st : ExtW w => st.cell hS.c3
  have HST := Lib.hid hst
  clear h hr hS hg hst hx
  go_enter Tryz.func294, Tryz.ntmps294
  go_wp2_with fail
  refine wp_region_ext_tail 18 (by kernel_rfl) (by kernel_rfl) ?_
  simp only [List.take_succ_cons, List.take_zero, List.drop_succ_cons, List.drop_zero]
  repeat (go_big_quiet_step ((go_at_call 295; with_reducible refine calls_ext (hwx _))))
  refine wpQuiet_nil ?_
  rintro W ⟨⟨W2, hW⟩, rfl⟩
  have hsw := HST.out _ hW
  have HW := Lib.hid hW
  clear x0 x1 x2 x3 hwx hW
  go_wp2_with (go_at_call 91; refine hsw.mono ?_; rintro e w2 ⟨rfl, h2, f2⟩)
  go_end0
  exact ⟨rfl, h2, (below_fr HW.out wTy true).trans f2⟩
end
end Go.Proofs.YtdbgfidnccpmdaaGreat

/-
  Puts and Outs: their lines, their steps.
-/
namespace Go.Proofs.YtdbgfidnccpmdaaGreat
open Go.RowKit
set_option linter.unusedVariables false

theorem fr_fx {w w' : World} (b : Nat) (F : Fr wTy true w w') : Fx wTy true b w w' := ⟨F.size, fun k cs T fr h1 h2 _ => F.cells k cs T fr h1 h2, fun h => by cases h⟩
section
variable {w0 w : World} {B : WB} {V : WV} {s : CS} {b : Nat} {σ : SL} (h : WS w0 w B V s) (hr : s.room)
include h hr
set_option maxRecDepth 10000 in
set_option maxHeartbeats 1000000 in
theorem put_first {g r : Int} (hS : SlotAt w b 317 σ [.int .i64 g, .int .i64 r]) (hi : (Lit.int .u64 σ.it).wf = true) (hrr : 0 ≤ r ∧ r < 9223372036854775808) : Calls Tryz.prog 290 #[.pointer (some ⟨b, 0, none⟩), .pointer (some ⟨B.wb, 0, none⟩)] w fun e w' => e = .returned (.tuple #[]) ∧ WS w0 w' B V (s.acc 2 σ.it r) ∧ Fr wTy true w w' := by
  have e1 : IntKind.u64.wrap r = r := by rw [IntKind.wrap_u64]; omega
  have hst : ∀ W, Below w.heap.size w W → Calls Tryz.prog 91 #[.pointer (some ⟨B.cb, 0, none⟩), .int .u64 σ.it, .int .u64 r] W fun e w' => e = .returned (.int .u64 (s.val σ.it)) ∧ WS w0 w' B V (s.acc 2 σ.it r) ∧ Fr wTy true W w' := fun W hW => (h.keep hW).store hr _ hi _ (bd_wf (by omega))
  have x0 := fun st : ExtW w => st.cell h.c0
  have x1 := fun st : ExtW w => st.cell hS.c1
  have x6 : ∀ st : ExtW w, st.val.cell? ⟨b, 6, none⟩ = some (.int .i64 r) := fun st => st.cell (by rw [hcell hS 6]; rfl)
  have HST := Lib.hid hst
  clear h hr hS hi hst hrr
  go_enter Tryz.func290, Tryz.ntmps290
  go_wp2_with fail
  refine wp_region_ext_tail 14 (by kernel_rfl) (by kernel_rfl) ?_
  simp only [List.take_succ_cons, List.take_zero, List.drop_succ_cons, List.drop_zero]
  repeat (go_big_quiet_step (fail))
  refine wpQuiet_nil ?_
  rintro W ⟨⟨W2, hW⟩, rfl⟩
  have hsw := HST.out _ hW
  have HW := Lib.hid hW
  clear x0 x1 x6 hW
  go_wp2_with (go_at_call 91; refine hsw.mono ?_; rintro e w2 ⟨rfl, h2, f2⟩)
  go_end0
  exact ⟨rfl, h2, (below_fr HW.out wTy true).trans f2⟩
theorem put_second {rest : List Value} (hlo : w0.heap.size ≤ b) (hS : SlotAt w b 317 σ rest) (hg : (Lit.int .u64 σ.tg).wf = true) : Calls Tryz.prog 291 #[.pointer (some ⟨b, 0, none⟩), .pointer (some ⟨B.wb, 0, none⟩)] w fun e w' => e = .returned (.tuple #[]) ∧ WS w0 w' B V (s.acc 1 σ.tg (s.val σ.tg)) ∧ SlotAt w' b 317 { σ with x := s.val σ.tg } rest ∧ Fx wTy true b w w' := by
  have hl := slot_load h hr hS rfl hlo hg
  have y0 := hS.c0
  clear h hr hS hg
  go_enter Tryz.func291, Tryz.ntmps291
  go_wp2_with (go_at_call 293; refine hl.mono ?_; rintro e w2 ⟨rfl, h2⟩)
  go_end0
  exact ⟨rfl, h2⟩
theorem out_first {rest : List Value} (hlo : w0.heap.size ≤ b) (hS : SlotAt w b 320 σ rest) (hg : (Lit.int .u64 σ.tg).wf = true) : Calls Tryz.prog 300 #[.pointer (some ⟨b, 0, none⟩), .pointer (some ⟨B.wb, 0, none⟩)] w fun e w' => e = .returned (.tuple #[]) ∧ WS w0 w' B V (s.acc 1 σ.tg (s.val σ.tg)) ∧ SlotAt w' b 320 { σ with x := s.val σ.tg } rest ∧ Fx wTy true b w w' := by
  have hl := slot_load h hr hS rfl hlo hg
  have y0 := hS.c0
  clear h hr hS hg
  go_enter Tryz.func300, Tryz.ntmps300
  go_wp2_with (go_at_call 293; refine hl.mono ?_; rintro e w2 ⟨rfl, h2⟩)
  go_end0
  exact ⟨rfl, h2⟩
theorem out_second {rest : List Value} (hS : SlotAt w b 320 σ rest) (hg : (Lit.int .u64 σ.tg).wf = true) (hx : 0 ≤ σ.x ∧ σ.x < 18446744073709551616) : Calls Tryz.prog 301 #[.pointer (some ⟨b, 0, none⟩), .pointer (some ⟨B.wb, 0, none⟩)] w fun e w' => e = .returned (.tuple #[]) ∧ WS w0 w' B V (s.acc 2 σ.tg (TagPure.withOf σ.x σ.at_ 0)) ∧ Fr wTy true w w' := by
  have hl := slot_store h hr hS hg 0 hx
  have y0 := hS.c0
  clear h hr hS hg hx
  go_enter Tryz.func301, Tryz.ntmps301
  go_wp2_with (go_at_call 294; refine hl.mono ?_; rintro e w2 ⟨rfl, h2⟩)
  go_end0
  exact ⟨rfl, h2⟩
set_option maxRecDepth 10000 in
set_option maxHeartbeats 1000000 in
theorem put_third {g r : Int} (hS : SlotAt w b 317 σ [.int .i64 g, .int .i64 r]) (hg : (Lit.int .u64 σ.tg).wf = true) (hx : 0 ≤ σ.x ∧ σ.x < 18446744073709551616) : Calls Tryz.prog 292 #[.pointer (some ⟨b, 0, none⟩), .pointer (some ⟨B.wb, 0, none⟩)] w fun e w' => e = .returned (.tuple #[]) ∧ WS w0 w' B V (s.acc 2 σ.tg (TagPure.withOf σ.x σ.at_ g)) ∧ Fr wTy true w w' := by
  have hl : ∀ W, Below w.heap.size w W → Calls Tryz.prog 294 #[.pointer (some ⟨b, 0, none⟩), .pointer (some ⟨B.wb, 0, none⟩), .int .i64 g] W fun e w' => e = .returned (.tuple #[]) ∧ WS w0 w' B V (s.acc 2 σ.tg (TagPure.withOf σ.x σ.at_ g)) ∧ Fr wTy true W w' := fun W hW => slot_store (h.keep hW) hr (hS.below hW) hg g hx
  have x0 := fun st : ExtW w => st.cell hS.c0
  have x5 : ∀ st : ExtW w, st.val.cell? ⟨b, 5, none⟩ = some (.int .i64 g) := fun st => st.cell (by rw [hcell hS 5]; rfl)
  have HL := Lib.hid hl
  clear h hr hS hg hx hl
  go_enter Tryz.func292, Tryz.ntmps292
  go_wp2_with fail
  refine wp_region_ext_tail 8 (by kernel_rfl) (by kernel_rfl) ?_
  simp only [List.take_succ_cons, List.take_zero, List.drop_succ_cons, List.drop_zero]
  repeat (go_big_quiet_step (fail))
  refine wpQuiet_nil ?_
  rintro W ⟨⟨W2, hW⟩, rfl⟩
  have hsw := HL.out _ hW
  have HW := Lib.hid hW
  clear x0 x5 hW
  go_wp2_with (go_at_call 294; refine hsw.mono ?_; rintro e w2 ⟨rfl, h2, f2⟩)
  go_end0
  exact ⟨rfl, h2, (below_fr HW.out wTy true).trans f2⟩
set_option maxRecDepth 10000 in
set_option maxHeartbeats 1000000 in
theorem out_third {rest : List Value} (hS : SlotAt w b 320 σ rest) (hi : (Lit.int .u64 σ.it).wf = true) : Calls Tryz.prog 302 #[.pointer (some ⟨b, 0, none⟩), .pointer (some ⟨B.wb, 0, none⟩)] w fun e w' => e = .returned (.tuple #[]) ∧ WS w0 w' B V (s.acc 2 σ.it 0) ∧ Fr wTy true w w' := by
  have hst : ∀ W, Below w.heap.size w W → Calls Tryz.prog 91 #[.pointer (some ⟨B.cb, 0, none⟩), .int .u64 σ.it, .int .u64 0] W fun e w' => e = .returned (.int .u64 (s.val σ.it)) ∧ WS w0 w' B V (s.acc 2 σ.it 0) ∧ Fr wTy true W w' := fun W hW => (h.keep hW).store hr _ hi _ (by decide)
  have x0 := fun st : ExtW w => st.cell h.c0
  have x00 := fun st : ExtW w => st.cell hS.c0
  have x1 := fun st : ExtW w => st.cell hS.c1
  have HST := Lib.hid hst
  clear h hr hS hi hst
  go_enter Tryz.func302, Tryz.ntmps302
  go_wp2_with fail
  refine wp_region_ext_tail 9 (by kernel_rfl) (by kernel_rfl) ?_
  simp only [List.take_succ_cons, List.take_zero, List.drop_succ_cons, List.drop_zero]
  repeat (go_big_quiet_step (fail))
  refine wpQuiet_nil ?_
  rintro W ⟨⟨W2, hW⟩, rfl⟩
  have hsw := HST.out _ hW
  have HW := Lib.hid hW
  clear x0 x00 x1 hW
  go_wp2_with (go_at_call 91; refine hsw.mono ?_; rintro e w2 ⟨rfl, h2, f2⟩)
  go_end0
  exact ⟨rfl, h2, (below_fr HW.out wTy true).trans f2⟩
end

abbrev fv (f : Fn) : Value := .func f #[] #[]

theorem puts_any (w : World) : Calls Tryz.prog 289 #[] w fun e w' => e = .returned (.agg #[fv (.func 290), fv (.func 291), fv (.func 292)]) ∧ Below w.heap.size w w' := by
  go_enter Tryz.func289, Tryz.ntmps289
  go_wp2
  refine bodyPost_ret (v := .agg #[fv (.func 290), fv (.func 291), fv (.func 292)]) (by simp [results, Tryz.results289, go_sem]) rfl ⟨rfl, ?_⟩
  exact below_alloc' _ _
set_option maxRecDepth 10000 in
theorem Putover {w : World} {b : Nat} {σ : SL} {rest : List Value} (hS : SlotAt w b 317 σ rest) (a c : Bool) (ha : (σ.tg == 0) = a) (hc : (σ.ln == 3) = c) : Calls Tryz.prog 287 #[.pointer (some ⟨b, 0, none⟩)] w fun e w' => e = .returned (.bool (a || c)) ∧ Below w.heap.size w w' := by
  have x0 := fun st : ExtW w => st.cell hS.c0
  have x4 := fun st : ExtW w => st.cell hS.c4
  have hp := fun {w : World} (st : ExtW w) => puts_any st.val
  clear hS
  cases a
  all_goals
    go_enter Tryz.func287, Tryz.ntmps287
    go_wp2_with fail
    refine wp_region_ext (by kernel_rfl) (by kernel_rfl) ?_
    repeat (go_big_quiet_step ((go_at_call 289; with_reducible refine calls_ext (hp _))))
    refine wpQuiet_nil ?_
    rintro W ⟨⟨W2, hW⟩, rfl⟩
    clear x0 x4
    go_wp2
    go_ret
    exact ⟨by simp, hW⟩

theorem outs_any (w : World) : Calls Tryz.prog 299 #[] w fun e w' => e = .returned (.agg #[fv (.func 300), fv (.func 301), fv (.func 302)]) ∧ Below w.heap.size w w' := by
  go_enter Tryz.func299, Tryz.ntmps299
  go_wp2
  refine bodyPost_ret (v := .agg #[fv (.func 300), fv (.func 301), fv (.func 302)]) (by simp [results, Tryz.results299, go_sem]) rfl ⟨rfl, ?_⟩
  exact below_alloc' _ _
set_option maxRecDepth 10000 in
theorem Outover {w : World} {b : Nat} {σ : SL} {rest : List Value} (hS : SlotAt w b 320 σ rest) (a c : Bool) (ha : (σ.tg == 0) = a) (hc : (σ.ln == 3) = c) : Calls Tryz.prog 297 #[.pointer (some ⟨b, 0, none⟩)] w fun e w' => e = .returned (.bool (a || c)) ∧ Below w.heap.size w w' := by
  have x0 := fun st : ExtW w => st.cell hS.c0
  have x4 := fun st : ExtW w => st.cell hS.c4
  have hp := fun {w : World} (st : ExtW w) => outs_any st.val
  clear hS
  cases a
  all_goals
    go_enter Tryz.func297, Tryz.ntmps297
    go_wp2_with fail
    refine wp_region_ext (by kernel_rfl) (by kernel_rfl) ?_
    repeat (go_big_quiet_step ((go_at_call 299; with_reducible refine calls_ext (hp _))))
    refine wpQuiet_nil ?_
    rintro W ⟨⟨W2, hW⟩, rfl⟩
    clear x0 x4
    go_wp2
    go_ret
    exact ⟨by simp, hW⟩

theorem cell_lt {w : World} {b o : Nat} {v : Value} (h : w.cell? ⟨b, o, none⟩ = some v) : b < w.heap.size := by
  unfold World.cell? at h; simp only at h
  rcases Nat.lt_or_ge b w.heap.size with h1 | h1
  · exact h1
  · rw [Array.getElem?_eq_none h1] at h; cases h

set_option maxRecDepth 10000 in
set_option maxHeartbeats 1000000 in
theorem put_step0 {w0 w : World} {B : WB} {V : WV} {s : CS} {b : Nat} {σ : SL} {g r : Int} (h : WS w0 w B V s) (hr : s.room) (hlo : w0.heap.size ≤ b) (hS : SlotAt w b 317 σ [.int .i64 g, .int .i64 r]) (hz : σ.tg ≠ 0) (hg : (Lit.int .u64 σ.tg).wf = true) (hl : σ.ln = 0) (hi : (Lit.int .u64 σ.it).wf = true) (hrr : 0 ≤ r ∧ r < 9223372036854775808) :
    Calls Tryz.prog 288 #[.pointer (some ⟨b, 0, none⟩), .pointer (some ⟨B.wb, 0, none⟩)] w fun e w' => e = .returned (.bool false) ∧ WS w0 w' B V (s.acc 2 σ.it r) ∧ SlotAt w' b 317 { σ with ln := 1 } [.int .i64 g, .int .i64 r] ∧ Fx wTy true b w w' := by
  have hz' : (σ.tg == 0) = false := beq_eq_false_iff_ne.2 hz
  have ho := Putover hS false false hz' (by rw [hl]; rfl)
  have hcallee : ∀ W, Below w.heap.size w W → Calls Tryz.prog 290 #[.pointer (some ⟨b, 0, none⟩), .pointer (some ⟨B.wb, 0, none⟩)] W fun e w' => e = .returned (.tuple #[]) ∧ WS w0 w' B V (s.acc 2 σ.it r) ∧ SlotAt w' b 317 (σ) [.int .i64 g, .int .i64 r] ∧ Fx wTy true b W w' := fun W hW =>
    (put_first (h.keep hW) hr (hS.below hW) hi hrr).mono fun e w' ⟨he, hw, hf⟩ => ⟨he, hw, hf.cells _ _ _ _ (hS.below hW) rfl, fr_fx b hf⟩
  have hln : (σ).ln = 0 := hl
  have hso : ((σ).tg == 0) = false := hz'
  have hidx : ∀ W : World, (Instr.index 415 (.agg #[fv (.func 290), fv (.func 291), fv (.func 292)]) (.int .i64 0)).run Tryz.prog W = .ok (fv (.func 290)) W := fun W => by kernel_rfl
  have hp := fun {w : World} (st : ExtW w) => puts_any st.val
  have hc4 := hS.c4
  rw [hl] at hc4
  have HC := Lib.hid hcallee; have H0 := Lib.hid hln; have HSO := Lib.hid hso
  clear h hr hS hg hcallee hl hz hz' hln hso hi hrr
  go_enter Tryz.func288, Tryz.ntmps288
  go_upto_region 2 with (go_at_call 287; refine ho.mono ?_; rintro e w1 ⟨rfl, b1⟩; have x4 := (fun st : ExtW w1 => st.cell ((b1.cell (p := ⟨b, 4, none⟩) (cell_lt hc4)).trans hc4)); have B1 := Lib.hid b1; clear b1 ho hc4)
  refine wp_region_ext_tail 9 (by kernel_rfl) (by kernel_rfl) ?_
  simp only [List.take_succ_cons, List.take_zero, List.drop_succ_cons, List.drop_zero]
  repeat (go_big_quiet_step ((go_at_call 289; with_reducible refine calls_ext (hp _))))
  refine wpQuiet_nil ?_
  rintro W ⟨⟨W2, hW⟩, rfl⟩
  have hb2 := B1.out.trans (hW.mono B1.out.size)
  have hcw := HC.out _ hb2
  have HB2 := Lib.hid hb2
  clear x4 hp hidx hW hb2
  go_upto_region 4 with (go_at_call 290; refine hcw.mono ?_; rintro e w3 ⟨rfl, h3, s3, f3⟩; have y4 := s3.c4; rw [H0.out] at y4; have yf := hfrz s3 4; have H3 := Lib.hid h3; have S3 := Lib.hid s3; have F3 := Lib.hid f3; clear h3 s3 f3 hcw)
  have ho2 := Putover (S3.out.set4 (1)) false false HSO.out rfl
  have h4 := set_take (o := 4) H3.out S3.out rfl hlo (.int .i64 (1))
  have s4 := S3.out.set4 (1)
  have f4 := (((below_fr HB2.out wTy true).fx b).trans F3.out).trans (set_fx wTy true w3 b 4 (.int .i64 (1)))
  have H4 := Lib.hid h4; have S4 := Lib.hid s4; have F4 := Lib.hid f4
  clear h4 s4 f4 H3 S3 F3 y4 yf
  change Code.wp _ _ _ _ (w3.setCell ⟨b, 4, none⟩ (.int .i64 (1)))
  generalize w3.setCell ⟨b, 4, none⟩ (.int .i64 (1)) = W4 at *
  go_wp2_with (go_at_call 287; refine ho2.mono ?_; rintro e w5 ⟨rfl, b5⟩)
  go_ret
  exact ⟨rfl, H4.out.keep b5, S4.out.below b5, F4.out.trans ((below_fr b5 wTy true).fx b)⟩

set_option maxRecDepth 10000 in
set_option maxHeartbeats 1000000 in
theorem put_step1 {w0 w : World} {B : WB} {V : WV} {s : CS} {b : Nat} {σ : SL} {rest : List Value} (h : WS w0 w B V s) (hr : s.room) (hlo : w0.heap.size ≤ b) (hS : SlotAt w b 317 σ rest) (hz : σ.tg ≠ 0) (hg : (Lit.int .u64 σ.tg).wf = true) (hl : σ.ln = 1)  :
    Calls Tryz.prog 288 #[.pointer (some ⟨b, 0, none⟩), .pointer (some ⟨B.wb, 0, none⟩)] w fun e w' => e = .returned (.bool false) ∧ WS w0 w' B V (s.acc 1 σ.tg (s.val σ.tg)) ∧ SlotAt w' b 317 { { σ with x := s.val σ.tg } with ln := 2 } rest ∧ Fx wTy true b w w' := by
  have hz' : (σ.tg == 0) = false := beq_eq_false_iff_ne.2 hz
  have ho := Putover hS false false hz' (by rw [hl]; rfl)
  have hcallee : ∀ W, Below w.heap.size w W → Calls Tryz.prog 291 #[.pointer (some ⟨b, 0, none⟩), .pointer (some ⟨B.wb, 0, none⟩)] W fun e w' => e = .returned (.tuple #[]) ∧ WS w0 w' B V (s.acc 1 σ.tg (s.val σ.tg)) ∧ SlotAt w' b 317 ({ σ with x := s.val σ.tg }) rest ∧ Fx wTy true b W w' := fun W hW =>
    put_second (h.keep hW) hr hlo (hS.below hW) hg
  have hln : ({ σ with x := s.val σ.tg }).ln = 1 := hl
  have hso : (({ σ with x := s.val σ.tg }).tg == 0) = false := hz'
  have hidx : ∀ W : World, (Instr.index 415 (.agg #[fv (.func 290), fv (.func 291), fv (.func 292)]) (.int .i64 1)).run Tryz.prog W = .ok (fv (.func 291)) W := fun W => by kernel_rfl
  have hp := fun {w : World} (st : ExtW w) => puts_any st.val
  have hc4 := hS.c4
  rw [hl] at hc4
  have HC := Lib.hid hcallee; have H1 := Lib.hid hln; have HSO := Lib.hid hso
  clear h hr hS hg hcallee hl hz hz' hln hso 
  go_enter Tryz.func288, Tryz.ntmps288
  go_upto_region 2 with (go_at_call 287; refine ho.mono ?_; rintro e w1 ⟨rfl, b1⟩; have x4 := (fun st : ExtW w1 => st.cell ((b1.cell (p := ⟨b, 4, none⟩) (cell_lt hc4)).trans hc4)); have B1 := Lib.hid b1; clear b1 ho hc4)
  refine wp_region_ext_tail 9 (by kernel_rfl) (by kernel_rfl) ?_
  simp only [List.take_succ_cons, List.take_zero, List.drop_succ_cons, List.drop_zero]
  repeat (go_big_quiet_step ((go_at_call 289; with_reducible refine calls_ext (hp _))))
  refine wpQuiet_nil ?_
  rintro W ⟨⟨W2, hW⟩, rfl⟩
  have hb2 := B1.out.trans (hW.mono B1.out.size)
  have hcw := HC.out _ hb2
  have HB2 := Lib.hid hb2
  clear x4 hp hidx hW hb2
  go_upto_region 4 with (go_at_call 291; refine hcw.mono ?_; rintro e w3 ⟨rfl, h3, s3, f3⟩; have y4 := s3.c4; rw [H1.out] at y4; have yf := hfrz s3 4; have H3 := Lib.hid h3; have S3 := Lib.hid s3; have F3 := Lib.hid f3; clear h3 s3 f3 hcw)
  have ho2 := Putover (S3.out.set4 (2)) false false HSO.out rfl
  have h4 := set_take (o := 4) H3.out S3.out rfl hlo (.int .i64 (2))
  have s4 := S3.out.set4 (2)
  have f4 := (((below_fr HB2.out wTy true).fx b).trans F3.out).trans (set_fx wTy true w3 b 4 (.int .i64 (2)))
  have H4 := Lib.hid h4; have S4 := Lib.hid s4; have F4 := Lib.hid f4
  clear h4 s4 f4 H3 S3 F3 y4 yf
  change Code.wp _ _ _ _ (w3.setCell ⟨b, 4, none⟩ (.int .i64 (2)))
  generalize w3.setCell ⟨b, 4, none⟩ (.int .i64 (2)) = W4 at *
  go_wp2_with (go_at_call 287; refine ho2.mono ?_; rintro e w5 ⟨rfl, b5⟩)
  go_ret
  exact ⟨rfl, H4.out.keep b5, S4.out.below b5, F4.out.trans ((below_fr b5 wTy true).fx b)⟩

set_option maxRecDepth 10000 in
set_option maxHeartbeats 1000000 in
theorem put_step2 {w0 w : World} {B : WB} {V : WV} {s : CS} {b : Nat} {σ : SL} {g r : Int} (h : WS w0 w B V s) (hr : s.room) (hlo : w0.heap.size ≤ b) (hS : SlotAt w b 317 σ [.int .i64 g, .int .i64 r]) (hz : σ.tg ≠ 0) (hg : (Lit.int .u64 σ.tg).wf = true) (hl : σ.ln = 2) (hx : 0 ≤ σ.x ∧ σ.x < 18446744073709551616) :
    Calls Tryz.prog 288 #[.pointer (some ⟨b, 0, none⟩), .pointer (some ⟨B.wb, 0, none⟩)] w fun e w' => e = .returned (.bool true) ∧ WS w0 w' B V (s.acc 2 σ.tg (TagPure.withOf σ.x σ.at_ g)) ∧ SlotAt w' b 317 { σ with ln := 3 } [.int .i64 g, .int .i64 r] ∧ Fx wTy true b w w' := by
  have hz' : (σ.tg == 0) = false := beq_eq_false_iff_ne.2 hz
  have ho := Putover hS false false hz' (by rw [hl]; rfl)
  have hcallee : ∀ W, Below w.heap.size w W → Calls Tryz.prog 292 #[.pointer (some ⟨b, 0, none⟩), .pointer (some ⟨B.wb, 0, none⟩)] W fun e w' => e = .returned (.tuple #[]) ∧ WS w0 w' B V (s.acc 2 σ.tg (TagPure.withOf σ.x σ.at_ g)) ∧ SlotAt w' b 317 (σ) [.int .i64 g, .int .i64 r] ∧ Fx wTy true b W w' := fun W hW =>
    (put_third (h.keep hW) hr (hS.below hW) hg hx).mono fun e w' ⟨he, hw, hf⟩ => ⟨he, hw, hf.cells _ _ _ _ (hS.below hW) rfl, fr_fx b hf⟩
  have hln : (σ).ln = 2 := hl
  have hso : ((σ).tg == 0) = false := hz'
  have hidx : ∀ W : World, (Instr.index 415 (.agg #[fv (.func 290), fv (.func 291), fv (.func 292)]) (.int .i64 2)).run Tryz.prog W = .ok (fv (.func 292)) W := fun W => by kernel_rfl
  have hp := fun {w : World} (st : ExtW w) => puts_any st.val
  have hc4 := hS.c4
  rw [hl] at hc4
  have HC := Lib.hid hcallee; have H2 := Lib.hid hln; have HSO := Lib.hid hso
  clear h hr hS hg hcallee hl hz hz' hln hso hx
  go_enter Tryz.func288, Tryz.ntmps288
  go_upto_region 2 with (go_at_call 287; refine ho.mono ?_; rintro e w1 ⟨rfl, b1⟩; have x4 := (fun st : ExtW w1 => st.cell ((b1.cell (p := ⟨b, 4, none⟩) (cell_lt hc4)).trans hc4)); have B1 := Lib.hid b1; clear b1 ho hc4)
  refine wp_region_ext_tail 9 (by kernel_rfl) (by kernel_rfl) ?_
  simp only [List.take_succ_cons, List.take_zero, List.drop_succ_cons, List.drop_zero]
  repeat (go_big_quiet_step ((go_at_call 289; with_reducible refine calls_ext (hp _))))
  refine wpQuiet_nil ?_
  rintro W ⟨⟨W2, hW⟩, rfl⟩
  have hb2 := B1.out.trans (hW.mono B1.out.size)
  have hcw := HC.out _ hb2
  have HB2 := Lib.hid hb2
  clear x4 hp hidx hW hb2
  go_upto_region 4 with (go_at_call 292; refine hcw.mono ?_; rintro e w3 ⟨rfl, h3, s3, f3⟩; have y4 := s3.c4; rw [H2.out] at y4; have yf := hfrz s3 4; have H3 := Lib.hid h3; have S3 := Lib.hid s3; have F3 := Lib.hid f3; clear h3 s3 f3 hcw)
  have ho2 := Putover (S3.out.set4 (3)) false true HSO.out rfl
  have h4 := set_take (o := 4) H3.out S3.out rfl hlo (.int .i64 (3))
  have s4 := S3.out.set4 (3)
  have f4 := (((below_fr HB2.out wTy true).fx b).trans F3.out).trans (set_fx wTy true w3 b 4 (.int .i64 (3)))
  have H4 := Lib.hid h4; have S4 := Lib.hid s4; have F4 := Lib.hid f4
  clear h4 s4 f4 H3 S3 F3 y4 yf
  change Code.wp _ _ _ _ (w3.setCell ⟨b, 4, none⟩ (.int .i64 (3)))
  generalize w3.setCell ⟨b, 4, none⟩ (.int .i64 (3)) = W4 at *
  go_wp2_with (go_at_call 287; refine ho2.mono ?_; rintro e w5 ⟨rfl, b5⟩)
  go_ret
  exact ⟨rfl, H4.out.keep b5, S4.out.below b5, F4.out.trans ((below_fr b5 wTy true).fx b)⟩

set_option maxRecDepth 10000 in
set_option maxHeartbeats 1000000 in
theorem out_step0 {w0 w : World} {B : WB} {V : WV} {s : CS} {b : Nat} {σ : SL} {rest : List Value} (h : WS w0 w B V s) (hr : s.room) (hlo : w0.heap.size ≤ b) (hS : SlotAt w b 320 σ rest) (hz : σ.tg ≠ 0) (hg : (Lit.int .u64 σ.tg).wf = true) (hl : σ.ln = 0)  :
    Calls Tryz.prog 298 #[.pointer (some ⟨b, 0, none⟩), .pointer (some ⟨B.wb, 0, none⟩)] w fun e w' => e = .returned (.bool false) ∧ WS w0 w' B V (s.acc 1 σ.tg (s.val σ.tg)) ∧ SlotAt w' b 320 { { σ with x := s.val σ.tg } with ln := 1 } rest ∧ Fx wTy true b w w' := by
  have hz' : (σ.tg == 0) = false := beq_eq_false_iff_ne.2 hz
  have ho := Outover hS false false hz' (by rw [hl]; rfl)
  have hcallee : ∀ W, Below w.heap.size w W → Calls Tryz.prog 300 #[.pointer (some ⟨b, 0, none⟩), .pointer (some ⟨B.wb, 0, none⟩)] W fun e w' => e = .returned (.tuple #[]) ∧ WS w0 w' B V (s.acc 1 σ.tg (s.val σ.tg)) ∧ SlotAt w' b 320 ({ σ with x := s.val σ.tg }) rest ∧ Fx wTy true b W w' := fun W hW =>
    out_first (h.keep hW) hr hlo (hS.below hW) hg
  have hln : ({ σ with x := s.val σ.tg }).ln = 0 := hl
  have hso : (({ σ with x := s.val σ.tg }).tg == 0) = false := hz'
  have hidx : ∀ W : World, (Instr.index 420 (.agg #[fv (.func 300), fv (.func 301), fv (.func 302)]) (.int .i64 0)).run Tryz.prog W = .ok (fv (.func 300)) W := fun W => by kernel_rfl
  have hp := fun {w : World} (st : ExtW w) => outs_any st.val
  have hc4 := hS.c4
  rw [hl] at hc4
  have HC := Lib.hid hcallee; have H0 := Lib.hid hln; have HSO := Lib.hid hso
  clear h hr hS hg hcallee hl hz hz' hln hso 
  go_enter Tryz.func298, Tryz.ntmps298
  go_upto_region 2 with (go_at_call 297; refine ho.mono ?_; rintro e w1 ⟨rfl, b1⟩; have x4 := (fun st : ExtW w1 => st.cell ((b1.cell (p := ⟨b, 4, none⟩) (cell_lt hc4)).trans hc4)); have B1 := Lib.hid b1; clear b1 ho hc4)
  refine wp_region_ext_tail 9 (by kernel_rfl) (by kernel_rfl) ?_
  simp only [List.take_succ_cons, List.take_zero, List.drop_succ_cons, List.drop_zero]
  repeat (go_big_quiet_step ((go_at_call 299; with_reducible refine calls_ext (hp _))))
  refine wpQuiet_nil ?_
  rintro W ⟨⟨W2, hW⟩, rfl⟩
  have hb2 := B1.out.trans (hW.mono B1.out.size)
  have hcw := HC.out _ hb2
  have HB2 := Lib.hid hb2
  clear x4 hp hidx hW hb2
  go_upto_region 4 with (go_at_call 300; refine hcw.mono ?_; rintro e w3 ⟨rfl, h3, s3, f3⟩; have y4 := s3.c4; rw [H0.out] at y4; have yf := hfrz s3 4; have H3 := Lib.hid h3; have S3 := Lib.hid s3; have F3 := Lib.hid f3; clear h3 s3 f3 hcw)
  have ho2 := Outover (S3.out.set4 (1)) false false HSO.out rfl
  have h4 := set_take (o := 4) H3.out S3.out rfl hlo (.int .i64 (1))
  have s4 := S3.out.set4 (1)
  have f4 := (((below_fr HB2.out wTy true).fx b).trans F3.out).trans (set_fx wTy true w3 b 4 (.int .i64 (1)))
  have H4 := Lib.hid h4; have S4 := Lib.hid s4; have F4 := Lib.hid f4
  clear h4 s4 f4 H3 S3 F3 y4 yf
  change Code.wp _ _ _ _ (w3.setCell ⟨b, 4, none⟩ (.int .i64 (1)))
  generalize w3.setCell ⟨b, 4, none⟩ (.int .i64 (1)) = W4 at *
  go_wp2_with (go_at_call 297; refine ho2.mono ?_; rintro e w5 ⟨rfl, b5⟩)
  go_ret
  exact ⟨rfl, H4.out.keep b5, S4.out.below b5, F4.out.trans ((below_fr b5 wTy true).fx b)⟩

set_option maxRecDepth 10000 in
set_option maxHeartbeats 1000000 in
theorem out_step1 {w0 w : World} {B : WB} {V : WV} {s : CS} {b : Nat} {σ : SL} {rest : List Value} (h : WS w0 w B V s) (hr : s.room) (hlo : w0.heap.size ≤ b) (hS : SlotAt w b 320 σ rest) (hz : σ.tg ≠ 0) (hg : (Lit.int .u64 σ.tg).wf = true) (hl : σ.ln = 1) (hx : 0 ≤ σ.x ∧ σ.x < 18446744073709551616) :
    Calls Tryz.prog 298 #[.pointer (some ⟨b, 0, none⟩), .pointer (some ⟨B.wb, 0, none⟩)] w fun e w' => e = .returned (.bool false) ∧ WS w0 w' B V (s.acc 2 σ.tg (TagPure.withOf σ.x σ.at_ 0)) ∧ SlotAt w' b 320 { σ with ln := 2 } rest ∧ Fx wTy true b w w' := by
  have hz' : (σ.tg == 0) = false := beq_eq_false_iff_ne.2 hz
  have ho := Outover hS false false hz' (by rw [hl]; rfl)
  have hcallee : ∀ W, Below w.heap.size w W → Calls Tryz.prog 301 #[.pointer (some ⟨b, 0, none⟩), .pointer (some ⟨B.wb, 0, none⟩)] W fun e w' => e = .returned (.tuple #[]) ∧ WS w0 w' B V (s.acc 2 σ.tg (TagPure.withOf σ.x σ.at_ 0)) ∧ SlotAt w' b 320 (σ) rest ∧ Fx wTy true b W w' := fun W hW =>
    (out_second (h.keep hW) hr (hS.below hW) hg hx).mono fun e w' ⟨he, hw, hf⟩ => ⟨he, hw, hf.cells _ _ _ _ (hS.below hW) rfl, fr_fx b hf⟩
  have hln : (σ).ln = 1 := hl
  have hso : ((σ).tg == 0) = false := hz'
  have hidx : ∀ W : World, (Instr.index 420 (.agg #[fv (.func 300), fv (.func 301), fv (.func 302)]) (.int .i64 1)).run Tryz.prog W = .ok (fv (.func 301)) W := fun W => by kernel_rfl
  have hp := fun {w : World} (st : ExtW w) => outs_any st.val
  have hc4 := hS.c4
  rw [hl] at hc4
  have HC := Lib.hid hcallee; have H1 := Lib.hid hln; have HSO := Lib.hid hso
  clear h hr hS hg hcallee hl hz hz' hln hso hx
  go_enter Tryz.func298, Tryz.ntmps298
  go_upto_region 2 with (go_at_call 297; refine ho.mono ?_; rintro e w1 ⟨rfl, b1⟩; have x4 := (fun st : ExtW w1 => st.cell ((b1.cell (p := ⟨b, 4, none⟩) (cell_lt hc4)).trans hc4)); have B1 := Lib.hid b1; clear b1 ho hc4)
  refine wp_region_ext_tail 9 (by kernel_rfl) (by kernel_rfl) ?_
  simp only [List.take_succ_cons, List.take_zero, List.drop_succ_cons, List.drop_zero]
  repeat (go_big_quiet_step ((go_at_call 299; with_reducible refine calls_ext (hp _))))
  refine wpQuiet_nil ?_
  rintro W ⟨⟨W2, hW⟩, rfl⟩
  have hb2 := B1.out.trans (hW.mono B1.out.size)
  have hcw := HC.out _ hb2
  have HB2 := Lib.hid hb2
  clear x4 hp hidx hW hb2
  go_upto_region 4 with (go_at_call 301; refine hcw.mono ?_; rintro e w3 ⟨rfl, h3, s3, f3⟩; have y4 := s3.c4; rw [H1.out] at y4; have yf := hfrz s3 4; have H3 := Lib.hid h3; have S3 := Lib.hid s3; have F3 := Lib.hid f3; clear h3 s3 f3 hcw)
  have ho2 := Outover (S3.out.set4 (2)) false false HSO.out rfl
  have h4 := set_take (o := 4) H3.out S3.out rfl hlo (.int .i64 (2))
  have s4 := S3.out.set4 (2)
  have f4 := (((below_fr HB2.out wTy true).fx b).trans F3.out).trans (set_fx wTy true w3 b 4 (.int .i64 (2)))
  have H4 := Lib.hid h4; have S4 := Lib.hid s4; have F4 := Lib.hid f4
  clear h4 s4 f4 H3 S3 F3 y4 yf
  change Code.wp _ _ _ _ (w3.setCell ⟨b, 4, none⟩ (.int .i64 (2)))
  generalize w3.setCell ⟨b, 4, none⟩ (.int .i64 (2)) = W4 at *
  go_wp2_with (go_at_call 297; refine ho2.mono ?_; rintro e w5 ⟨rfl, b5⟩)
  go_ret
  exact ⟨rfl, H4.out.keep b5, S4.out.below b5, F4.out.trans ((below_fr b5 wTy true).fx b)⟩

set_option maxRecDepth 10000 in
set_option maxHeartbeats 1000000 in
theorem out_step2 {w0 w : World} {B : WB} {V : WV} {s : CS} {b : Nat} {σ : SL} {rest : List Value} (h : WS w0 w B V s) (hr : s.room) (hlo : w0.heap.size ≤ b) (hS : SlotAt w b 320 σ rest) (hz : σ.tg ≠ 0) (hg : (Lit.int .u64 σ.tg).wf = true) (hl : σ.ln = 2) (hi : (Lit.int .u64 σ.it).wf = true) :
    Calls Tryz.prog 298 #[.pointer (some ⟨b, 0, none⟩), .pointer (some ⟨B.wb, 0, none⟩)] w fun e w' => e = .returned (.bool true) ∧ WS w0 w' B V (s.acc 2 σ.it 0) ∧ SlotAt w' b 320 { σ with ln := 3 } rest ∧ Fx wTy true b w w' := by
  have hz' : (σ.tg == 0) = false := beq_eq_false_iff_ne.2 hz
  have ho := Outover hS false false hz' (by rw [hl]; rfl)
  have hcallee : ∀ W, Below w.heap.size w W → Calls Tryz.prog 302 #[.pointer (some ⟨b, 0, none⟩), .pointer (some ⟨B.wb, 0, none⟩)] W fun e w' => e = .returned (.tuple #[]) ∧ WS w0 w' B V (s.acc 2 σ.it 0) ∧ SlotAt w' b 320 (σ) rest ∧ Fx wTy true b W w' := fun W hW =>
    (out_third (h.keep hW) hr (hS.below hW) hi).mono fun e w' ⟨he, hw, hf⟩ => ⟨he, hw, hf.cells _ _ _ _ (hS.below hW) rfl, fr_fx b hf⟩
  have hln : (σ).ln = 2 := hl
  have hso : ((σ).tg == 0) = false := hz'
  have hidx : ∀ W : World, (Instr.index 420 (.agg #[fv (.func 300), fv (.func 301), fv (.func 302)]) (.int .i64 2)).run Tryz.prog W = .ok (fv (.func 302)) W := fun W => by kernel_rfl
  have hp := fun {w : World} (st : ExtW w) => outs_any st.val
  have hc4 := hS.c4
  rw [hl] at hc4
  have HC := Lib.hid hcallee; have H2 := Lib.hid hln; have HSO := Lib.hid hso
  clear h hr hS hg hcallee hl hz hz' hln hso hi
  go_enter Tryz.func298, Tryz.ntmps298
  go_upto_region 2 with (go_at_call 297; refine ho.mono ?_; rintro e w1 ⟨rfl, b1⟩; have x4 := (fun st : ExtW w1 => st.cell ((b1.cell (p := ⟨b, 4, none⟩) (cell_lt hc4)).trans hc4)); have B1 := Lib.hid b1; clear b1 ho hc4)
  refine wp_region_ext_tail 9 (by kernel_rfl) (by kernel_rfl) ?_
  simp only [List.take_succ_cons, List.take_zero, List.drop_succ_cons, List.drop_zero]
  repeat (go_big_quiet_step ((go_at_call 299; with_reducible refine calls_ext (hp _))))
  refine wpQuiet_nil ?_
  rintro W ⟨⟨W2, hW⟩, rfl⟩
  have hb2 := B1.out.trans (hW.mono B1.out.size)
  have hcw := HC.out _ hb2
  have HB2 := Lib.hid hb2
  clear x4 hp hidx hW hb2
  go_upto_region 4 with (go_at_call 302; refine hcw.mono ?_; rintro e w3 ⟨rfl, h3, s3, f3⟩; have y4 := s3.c4; rw [H2.out] at y4; have yf := hfrz s3 4; have H3 := Lib.hid h3; have S3 := Lib.hid s3; have F3 := Lib.hid f3; clear h3 s3 f3 hcw)
  have ho2 := Outover (S3.out.set4 (3)) false true HSO.out rfl
  have h4 := set_take (o := 4) H3.out S3.out rfl hlo (.int .i64 (3))
  have s4 := S3.out.set4 (3)
  have f4 := (((below_fr HB2.out wTy true).fx b).trans F3.out).trans (set_fx wTy true w3 b 4 (.int .i64 (3)))
  have H4 := Lib.hid h4; have S4 := Lib.hid s4; have F4 := Lib.hid f4
  clear h4 s4 f4 H3 S3 F3 y4 yf
  change Code.wp _ _ _ _ (w3.setCell ⟨b, 4, none⟩ (.int .i64 (3)))
  generalize w3.setCell ⟨b, 4, none⟩ (.int .i64 (3)) = W4 at *
  go_wp2_with (go_at_call 297; refine ho2.mono ?_; rintro e w5 ⟨rfl, b5⟩)
  go_ret
  exact ⟨rfl, H4.out.keep b5, S4.out.below b5, F4.out.trans ((below_fr b5 wTy true).fx b)⟩
end Go.Proofs.YtdbgfidnccpmdaaGreat

/-
  Slots, spots, runs of a Put, layer 13's examples.
-/
namespace Go.Proofs.YtdbgfidnccpmdaaGreat
open Go.RowKit Go.Maps TagPure
set_option linter.unusedVariables false

theorem world12w (b : Int) (hb : 1 ≤ b ∧ b ≤ 12) (w : World) : Calls Tryz.prog 87 #[.int .i64 b] w fun e w' => ∃ B, e = .returned (.pointer (some ⟨B.wb, 0, none⟩)) ∧ WS w w' B (v0 ⟨b, 8, 3, 1, 16⟩) (CS.init [(2, tword b 0)]) := by
  have hn1 : Calls Tryz.prog 75 #[.agg #[.int .i64 b, .int .i64 8, .int .i64 3, .int .i64 1, .int .i64 16]] w fun e w' => ∃ B : WB, e = .returned (.tuple #[.pointer (some ⟨B.wb, 0, none⟩), .int .i64 0]) ∧ WS w w' B (v0 ⟨b, 8, 3, 1, 16⟩) (CS.init [(2, tword b 0)]) :=
    (wnew_ok ⟨b, 8, 3, 1, 16⟩ (by simp [Conf.ok]; omega) w).mono fun e w' ⟨wb, cb, ib, nb, he, g1, g2, g3, g4, g5, g6, g7⟩ => ⟨⟨wb, cb, ib, nb⟩, he, ws_of (Below.refl _ w) g1 g2 g3 g4 g5 g6 g7⟩
  clear hb
  go_enter Tryz.func87, Tryz.ntmps87
  go_wp2_with (go_at_call 75; with_reducible refine hn1.mono ?_; rintro e w1 ⟨B, rfl, h1⟩)
  go_ret
  exact ⟨_, rfl, h1⟩

theorem WS.peekx {w0 w : World} {B : WB} {V : WV} {s : CS} (h : WS w0 w B V s) (a : Int) (ha : (Lit.int .u64 a).wf = true) (st : ExtW w) : Calls Tryz.prog 33 #[.pointer (some ⟨B.cb, 0, none⟩), .int .u64 a] st.val fun e w' => e = .returned (.int .u64 (s.val a)) ∧ st.val = w' :=
  ((h.keep st.below).peek a ha).mono fun e w' ⟨he, hw⟩ => ⟨he, hw.symm⟩
set_option maxRecDepth 10000 in
set_option maxHeartbeats 1000000 in
theorem slot_any {w0 w : World} {B : WB} {V : WV} {s : CS} (h : WS w0 w B V s) (b u k : Int) (hk : (Lit.int .i64 k).wf = true) : Calls Tryz.prog 62 #[.pointer (some ⟨B.wb, 0, none⟩), .agg #[.int .i64 b, .int .i64 u, .int .i64 k]] w
    fun e w' => e = .returned (.tuple #[.int .i64 (tagOf (s.val (tagsA b u)) k), .int .u64 (s.val (itemA b u k))]) ∧ Below w.heap.size w w' := by
  have hB := below_alloc w (.cells #[.int .i64 b, .int .i64 u, .int .i64 k] 43)
  have h1 := h.keep hB
  have hit := fun {W : World} (st : ExtW W) => item_any b u k hk st.val
  have htg := fun {W : World} (st : ExtW W) => tags_any b u st.val
  have hp1 := fun st => h1.peekx (tagsA b u) (tagsA_wf b u) st
  have hp2 := fun st => h1.peekx (itemA b u k) (itemA_wf b u k) st
  have hwf := wf_bd (h.own.wf (tagsA b u))
  have hto := fun {W : World} (st : ExtW W) => tag_any (s.val (tagsA b u)) k st.val hwf.1 hwf.2
  have z := box3 w b u k 43
  have x0 := fun st : ExtW (w.alloc (.cells #[.int .i64 b, .int .i64 u, .int .i64 k] 43)) => st.cell (z 0)
  have x1 := fun st : ExtW (w.alloc (.cells #[.int .i64 b, .int .i64 u, .int .i64 k] 43)) => st.cell (z 1)
  have x2 := fun st : ExtW (w.alloc (.cells #[.int .i64 b, .int .i64 u, .int .i64 k] 43)) => st.cell (z 2)
  have x3 := fun st : ExtW (w.alloc (.cells #[.int .i64 b, .int .i64 u, .int .i64 k] 43)) => st.cell h1.c0
  have HB := Lib.hid hB
  clear h h1 hk hwf z hB
  go_enter Tryz.func62, Tryz.ntmps62
  go_wp2_with fail
  refine wp_region_ext (by kernel_rfl) (by kernel_rfl) ?_
  repeat (go_big_quiet_step (first
    | (go_at_call 119; with_reducible refine calls_ext (htg _))
    | (go_at_call 144; with_reducible refine calls_ext (hit _))
    | (go_at_call 33; with_reducible refine calls_ext_same (hp1 _))
    | (go_at_call 33; with_reducible refine calls_ext_same (hp2 _))
    | (go_at_call 143; with_reducible refine calls_ext (hto _))))
  refine wpQuiet_nil ?_
  rintro W ⟨⟨W2, hW⟩, rfl⟩
  clear x0 x1 x2 x3
  go_wp2
  go_ret2
  exact ⟨rfl, bnext HB.out hW⟩
theorem spot21 (k : Nat) (hk : k < 4) (w : World) : Calls Tryz.prog 120 #[.int .i64 2, .int .i64 1, .int .i64 k] w fun e w' => e = .returned (.agg #[.int .i64 2, .int .i64 1, .int .i64 k]) ∧ Below w.heap.size w w' := by
  have hsz := fun w => size_any 2 w
  have e0 : tsize 2 = 4 := by decide
  simp only [e0] at hsz
  have e1 : (k : Int) % 4 = k := by omega
  clear e0 hk
  go_enter Tryz.func120, Tryz.ntmps120
  go_wp2_with (go_at_call 121; refine (hsz _).mono ?_; rintro e w1 ⟨rfl, hw⟩; obtain rfl := hw.symm)
  refine bodyPost_ret (v := .agg #[.int .i64 2, .int .i64 1, .int .i64 k]) (by simp [results, Tryz.results120, go_sem]) rfl ⟨rfl, ?_⟩
  exact below_alloc' _ _

def pst (s : CS) (tgA it at_ g r : Int) : Nat → CS
  | 0 => s
  | 1 => s.acc 2 it r
  | 2 => (s.acc 2 it r).acc 1 tgA ((s.acc 2 it r).val tgA)
  | _ => ((s.acc 2 it r).acc 1 tgA ((s.acc 2 it r).val tgA)).acc 2 tgA (withOf ((s.acc 2 it r).val tgA) at_ g)
def psl (s : CS) (tgA it at_ r : Int) : Nat → SL
  | 0 => ⟨tgA, it, at_, 0, 0⟩
  | 1 => ⟨tgA, it, at_, 0, 1⟩
  | 2 => ⟨tgA, it, at_, (s.acc 2 it r).val tgA, 2⟩
  | _ => ⟨tgA, it, at_, (s.acc 2 it r).val tgA, 3⟩
def ost (s : CS) (tgA it at_ : Int) : Nat → CS
  | 0 => s
  | 1 => s.acc 1 tgA (s.val tgA)
  | 2 => (s.acc 1 tgA (s.val tgA)).acc 2 tgA (withOf (s.val tgA) at_ 0)
  | _ => ((s.acc 1 tgA (s.val tgA)).acc 2 tgA (withOf (s.val tgA) at_ 0)).acc 2 it 0
def osl (s : CS) (tgA it at_ : Int) : Nat → SL
  | 0 => ⟨tgA, it, at_, 0, 0⟩
  | 1 => ⟨tgA, it, at_, s.val tgA, 1⟩
  | 2 => ⟨tgA, it, at_, s.val tgA, 2⟩
  | _ => ⟨tgA, it, at_, s.val tgA, 3⟩
section
variable {w0 w : World} {B : WB} {V : WV} {s : CS} {b : Nat} {tgA it at_ g r : Int} {m : Nat} (hm : s.n ≤ m ∧ s.cnt ≤ m) (hl : m + 3 < lim) (hlo : w0.heap.size ≤ b) (hz : tgA ≠ 0) (hg : (Lit.int .u64 tgA).wf = true) (hi : (Lit.int .u64 it).wf = true)
include hm
theorem pst_le (n : Nat) (hn : n ≤ 3) : (pst s tgA it at_ g r n).n ≤ m + n ∧ (pst s tgA it at_ g r n).cnt ≤ m + n := by
  match n, hn with
  | 0, _ => exact hm
  | 1, _ => exact room_acc m hm
  | 2, _ => exact room_acc _ (room_acc m hm)
  | 3, _ => exact room_acc _ (room_acc _ (room_acc m hm))
theorem ost_le (n : Nat) (hn : n ≤ 3) : (ost s tgA it at_ n).n ≤ m + n ∧ (ost s tgA it at_ n).cnt ≤ m + n := by
  match n, hn with
  | 0, _ => exact hm
  | 1, _ => exact room_acc m hm
  | 2, _ => exact room_acc _ (room_acc m hm)
  | 3, _ => exact room_acc _ (room_acc _ (room_acc m hm))
include hl hlo hz hg hi
theorem put_step (hrr : 0 ≤ r ∧ r < 9223372036854775808) (n : Nat) (hn : n < 3) (h : WS w0 w B V (pst s tgA it at_ g r n)) (hS : SlotAt w b 317 (psl s tgA it at_ r n) [.int .i64 g, .int .i64 r]) :
    Calls Tryz.prog 288 #[.pointer (some ⟨b, 0, none⟩), .pointer (some ⟨B.wb, 0, none⟩)] w fun e w' => (∃ o, e = .returned (.bool o)) ∧ WS w0 w' B V (pst s tgA it at_ g r (n + 1)) ∧ SlotAt w' b 317 (psl s tgA it at_ r (n + 1)) [.int .i64 g, .int .i64 r] ∧ Fx wTy true b w w' := by
  have hle := pst_le (tgA := tgA) (it := it) (at_ := at_) (g := g) (r := r) hm n (by omega)
  have hr : (pst s tgA it at_ g r n).room := CS.room_of (m + n) hle (by omega)
  match n, hn with
  | 0, _ => exact (put_step0 h hr hlo hS hz hg rfl hi hrr).mono fun e w' ⟨h1, h2⟩ => ⟨⟨_, h1⟩, h2⟩
  | 1, _ => exact (put_step1 h hr hlo hS hz hg rfl).mono fun e w' ⟨h1, h2⟩ => ⟨⟨_, h1⟩, h2⟩
  | 2, _ =>
    have hx : 0 ≤ (psl s tgA it at_ r 2).x ∧ (psl s tgA it at_ r 2).x < 18446744073709551616 := by
      have := wf_bd (h.own.wf tgA)
      simp only [pst, CS.acc_self] at this
      exact this
    exact (put_step2 h hr hlo hS hz hg rfl hx).mono fun e w' ⟨h1, h2⟩ => ⟨⟨_, h1⟩, h2⟩
theorem out_step (n : Nat) (hn : n < 3) (h : WS w0 w B V (ost s tgA it at_ n)) (hS : SlotAt w b 320 (osl s tgA it at_ n) []) :
    Calls Tryz.prog 298 #[.pointer (some ⟨b, 0, none⟩), .pointer (some ⟨B.wb, 0, none⟩)] w fun e w' => (∃ o, e = .returned (.bool o)) ∧ WS w0 w' B V (ost s tgA it at_ (n + 1)) ∧ SlotAt w' b 320 (osl s tgA it at_ (n + 1)) [] ∧ Fx wTy true b w w' := by
  have hle := ost_le (tgA := tgA) (it := it) (at_ := at_) hm n (by omega)
  have hr : (ost s tgA it at_ n).room := CS.room_of (m + n) hle (by omega)
  match n, hn with
  | 0, _ => exact (out_step0 h hr hlo hS hz hg rfl).mono fun e w' ⟨h1, h2⟩ => ⟨⟨_, h1⟩, h2⟩
  | 1, _ =>
    have hx : 0 ≤ (osl s tgA it at_ 1).x ∧ (osl s tgA it at_ 1).x < 18446744073709551616 := by
      have := wf_bd (h.own.wf tgA)
      simp only [ost, CS.acc_self] at this
      exact this
    exact (out_step1 h hr hlo hS hz hg rfl hx).mono fun e w' ⟨h1, h2⟩ => ⟨⟨_, h1⟩, h2⟩
  | 2, _ => exact (out_step2 h hr hlo hS hz hg rfl hi).mono fun e w' ⟨h1, h2⟩ => ⟨⟨true, h1⟩, h2⟩
end
end Go.Proofs.YtdbgfidnccpmdaaGreat

/-
  A Put by itself; layer 13's examples.
-/
namespace Go.Proofs.YtdbgfidnccpmdaaGreat
open Go.RowKit Go.Maps TagPure
set_option linter.unusedVariables false

theorem psl_tg (s : CS) (tgA it at_ r : Int) (n : Nat) : (psl s tgA it at_ r n).tg = tgA := by unfold psl; split <;> rfl
theorem psl_ln (s : CS) (tgA it at_ r : Int) (n : Nat) (hn : n ≤ 3) : (psl s tgA it at_ r n).ln = n := by
  match n, hn with
  | 0, _ | 1, _ | 2, _ | 3, _ => rfl
theorem osl_tg (s : CS) (tgA it at_ : Int) (n : Nat) : (osl s tgA it at_ n).tg = tgA := by unfold osl; split <;> rfl
theorem osl_ln (s : CS) (tgA it at_ : Int) (n : Nat) (hn : n ≤ 3) : (osl s tgA it at_ n).ln = n := by
  match n, hn with
  | 0, _ | 1, _ | 2, _ | 3, _ => rfl
theorem put_over {w : World} {b : Nat} {s : CS} {tgA it at_ r : Int} {rest : List Value} (n : Nat) (hn : n ≤ 3) (hz : tgA ≠ 0) (hS : SlotAt w b 317 (psl s tgA it at_ r n) rest) : Calls Tryz.prog 287 #[.pointer (some ⟨b, 0, none⟩)] w fun e w' => e = .returned (.bool ((n : Int) == 3)) ∧ Below w.heap.size w w' := by
  have := Putover hS false ((n : Int) == 3) (by rw [psl_tg]; exact beq_eq_false_iff_ne.2 hz) (by rw [psl_ln _ _ _ _ _ n hn])
  simpa only [Bool.false_or] using this
theorem out_over {w : World} {b : Nat} {s : CS} {tgA it at_ : Int} {rest : List Value} (n : Nat) (hn : n ≤ 3) (hz : tgA ≠ 0) (hS : SlotAt w b 320 (osl s tgA it at_ n) rest) : Calls Tryz.prog 297 #[.pointer (some ⟨b, 0, none⟩)] w fun e w' => e = .returned (.bool ((n : Int) == 3)) ∧ Below w.heap.size w w' := by
  have := Outover hS false ((n : Int) == 3) (by rw [osl_tg]; exact beq_eq_false_iff_ne.2 hz) (by rw [osl_ln _ _ _ _ n hn])
  simpa only [Bool.false_or] using this
set_option maxRecDepth 10000 in
set_option maxHeartbeats 1000000 in
theorem run_put {w0 w : World} {B : WB} {V : WV} {s : CS} {b : Nat} {tgA it at_ g r : Int} {m : Nat} (hm : s.n ≤ m ∧ s.cnt ≤ m) (hl : m + 3 < lim) (hlo : w0.heap.size ≤ b) (hz : tgA ≠ 0) (hg : (Lit.int .u64 tgA).wf = true) (hi : (Lit.int .u64 it).wf = true) (hrr : 0 ≤ r ∧ r < 9223372036854775808)
    (h : WS w0 w B V s) (hS : SlotAt w b 317 ⟨tgA, it, at_, 0, 0⟩ [.int .i64 g, .int .i64 r]) :
    Calls Tryz.prog 36 #[.pointer (some ⟨B.wb, 0, none⟩), .iface 219 (.pointer (some ⟨b, 0, none⟩)), .int .i64 9] w fun e w' => e = .returned (.int .i64 3) ∧ WS w0 w' B V (pst s tgA it at_ g r 3) ∧ SlotAt w' b 317 (psl s tgA it at_ r 3) [.int .i64 g, .int .i64 r] ∧ Fx wTy true b w w' := by
  have hst := fun (n : Nat) (hn : n < 3) (W : World) (h1 : WS w0 W B V (pst s tgA it at_ g r n)) h2 => put_step hm hl hlo hz hg hi hrr n hn h1 h2
  have H := Lib.hid h; have HS := Lib.hid hS; have HST := Lib.hid hst; have HZ := Lib.hid hz
  clear h hS hst hg hi hrr hm hl hz
  go_enter Tryz.func36, Tryz.ntmps36
  go_wp2
  go_loopw [7] (fun i wr => ∃ k : Nat, k ≤ 3 ∧ i = .int .i64 k ∧ WS w0 wr B V (pst s tgA it at_ g r k) ∧ SlotAt wr b 317 (psl s tgA it at_ r k) [.int .i64 g, .int .i64 r] ∧ Fx wTy true b w wr) (fun i _ => 3 - (intOf i).toNat)
  case atStart => exact ⟨0, by omega, rfl, H.out, HS.out, (below_fr (Below.refl _ w) wTy true).fx b⟩
  case round =>
    obtain ⟨k, hk, rfl, h1, h2, h3⟩ := hrel
    have hov := put_over k hk HZ.out h2
    by_cases hlt : k < 3
    · have hk9 : (k : Int) < 9 := by omega
      have hk3 : ((k : Int) == 3) = false := by rw [beq_eq_false_iff_ne]; omega
      rw [hk3] at hov
      have hcall := fun (W : World) (hb : Below wr.heap.size wr W) => HST.out k hlt W (h1.keep hb) (h2.below hb)
      have HC := Lib.hid hcall; have H3 := Lib.hid h3
      clear h1 h2 h3 hcall hk3
      go_wp2_with (first
        | (go_at_call 287; refine hov.mono ?_; rintro e w2 ⟨rfl, b2⟩; have hc := HC.out _ b2; have B2 := Lib.hid b2; clear b2 hov)
        | (go_at_call 288; refine hc.mono ?_; rintro e w3 ⟨⟨o, rfl⟩, g1, g2, g3⟩; have G1 := Lib.hid g1; have G2 := Lib.hid g2; have G3 := Lib.hid g3; clear g1 g2 g3 hc))
      exact ⟨⟨k + 1, by omega, by go_num, G1.out, G2.out, (H3.out.trans ((below_fr B2.out wTy true).fx b)).trans G3.out⟩, by simp [intOf]; omega⟩
    · obtain rfl : k = 3 := by omega
      have H1 := Lib.hid h1; have H2 := Lib.hid h2; have H3 := Lib.hid h3
      rw [show (((3 : Nat) : Int) == 3) = true from rfl] at hov
      clear h1 h2 h3
      go_wp2_with (go_at_call 287; refine hov.mono ?_; rintro e w2 ⟨rfl, b2⟩)
      go_ret
      exact ⟨rfl, H1.out.keep b2, H2.out.below b2, H3.out.trans ((below_fr b2 wTy true).fx b)⟩
end Go.Proofs.YtdbgfidnccpmdaaGreat

/-
  Spots of small tables: the n-th one; what a Put, and an Out, leave of all of them.
-/
namespace Go.Proofs.YtdbgfidnccpmdaaGreat
open Go.RowKit Go.Maps TagPure
set_option linter.unusedVariables false

theorem four {b : Int} (h : 1 ≤ b ∧ b ≤ 4) : (b = 1 ∧ tsize b = 2) ∨ (b = 2 ∧ tsize b = 4) ∨ (b = 3 ∧ tsize b = 8) ∨ (b = 4 ∧ tsize b = 16) := by
  rcases (show b = 1 ∨ b = 2 ∨ b = 3 ∨ b = 4 by omega) with rfl | rfl | rfl | rfl
  · exact .inl ⟨rfl, by decide⟩
  · exact .inr (.inl ⟨rfl, by decide⟩)
  · exact .inr (.inr (.inl ⟨rfl, by decide⟩))
  · exact .inr (.inr (.inr ⟨rfl, by decide⟩))
theorem as_one {b : Int} (h : 1 ≤ b ∧ b ≤ 4) : asOld (tword b 0) = b ∧ asNow (tword b 0) = 0 ∧ spots (tword b 0) = 4 * tsize b := by
  rcases (show b = 1 ∨ b = 2 ∨ b = 3 ∨ b = 4 by omega) with rfl | rfl | rfl | rfl <;> decide
theorem tword_wf4 {b : Int} (h : 1 ≤ b ∧ b ≤ 4) : (Lit.int .u64 (tword b 0)).wf = true := by
  rcases (show b = 1 ∨ b = 2 ∨ b = 3 ∨ b = 4 by omega) with rfl | rfl | rfl | rfl <;> decide
set_option maxHeartbeats 1000000 in
theorem at_small (b k : Int) (hb : 1 ≤ b ∧ b ≤ 4) (hk : 0 ≤ k ∧ k < 4 * tsize b) (w : World) : Calls Tryz.prog 135 #[.int .u64 (tword b 0), .int .i64 k] w fun e w' => e = .returned (.agg #[.int .i64 b, .int .i64 (k / 4), .int .i64 (k % 4)]) ∧ Below w.heap.size w w' := by
  have has := fun w => as_any (tword b 0) (tword_wf4 hb) w
  have hsp := fun w => spots_any (tword b 0) (tword_wf4 hb) w
  have hsz := fun w => size_any b w
  obtain ⟨e1, e2, e3⟩ := as_one hb
  rw [e1, e2] at has
  rw [e3] at hsp
  have hS : 2 ≤ tsize b ∧ tsize b ≤ 16 := by rcases four hb with ⟨_, h⟩ | ⟨_, h⟩ | ⟨_, h⟩ | ⟨_, h⟩ <;> omega
  generalize tsize b = S at *
  obtain ⟨A, hA⟩ : ∃ A, A = 4 * S := ⟨_, rfl⟩
  have f0 : wrap64 (4 * S) = A := by rw [hA]; exact IntWalk.wrap64_in _ (by omega)
  rw [← hA] at hsp
  have hA2 : 8 ≤ A ∧ A ≤ 64 := by omega
  have hk2 : 0 ≤ k ∧ k < A := by omega
  have f1 : k.tmod A = k := Int.tmod_eq_of_lt hk2.1 hk2.2
  have f2 : wrap64 (k + A) = k + A := IntWalk.wrap64_in _ (by omega)
  have f3 : (k + A).tmod A = k := by rw [Int.tmod_eq_emod_of_nonneg (by omega), Int.add_emod_right, Int.emod_eq_of_lt hk2.1 hk2.2]
  have f4 : (A == 0) = false := beq_eq_false_iff_ne.2 (by omega)
  have f4b : ¬ A = 0 := by omega
  have f5 : decide (A ≤ k) = false := decide_eq_false (by omega)
  obtain ⟨Q, hQ⟩ : ∃ Q, Q = k / 4 := ⟨_, rfl⟩
  obtain ⟨R, hR⟩ : ∃ R, R = k % 4 := ⟨_, rfl⟩
  have f6 : k.tdiv 4 = Q := by rw [hQ]; exact Int.tdiv_eq_ediv_of_nonneg hk2.1
  have f7 : k.tmod 4 = R := by rw [hR]; exact Int.tmod_eq_emod_of_nonneg hk2.1
  have f8 : wrap64 Q = Q := IntWalk.wrap64_in _ (by omega)
  have f9 : wrap64 k = k := IntWalk.wrap64_in _ (by omega)
  have f10 : wrap64 R = R := IntWalk.wrap64_in _ (by omega)
  rw [← hQ, ← hR]
  clear hA hk hk2 hA2 hS hQ hR e1 e2 e3 hb
  go_enter Tryz.func135, Tryz.ntmps135
  go_wp2_with (first
    | (go_at_call 53; refine (has _).mono ?_; rintro e w1 ⟨rfl, hw⟩; obtain rfl := hw.symm; clear has)
    | (go_at_call 134; refine (hsp _).mono ?_; rintro e w1 ⟨rfl, hw⟩; obtain rfl := hw.symm; clear hsp)
    | (go_at_call 121; refine (hsz _).mono ?_; rintro e w1 ⟨rfl, hw⟩; obtain rfl := hw.symm; clear hsz))
  refine bodyPost_ret (v := .agg #[.int .i64 b, .int .i64 Q, .int .i64 R]) (by simp [results, Tryz.results135, go_sem]) rfl ⟨rfl, ?_⟩
  exact below_alloc' _ _
set_option maxHeartbeats 1000000 in
theorem spot_in (b u s U R : Int) (hb : 1 ≤ b ∧ b ≤ 4) (hu : 0 ≤ u ∧ u < 256) (hs : 0 ≤ s ∧ s < 256) (hU : u % tsize b = U) (hR : s % 4 = R) (w : World) : Calls Tryz.prog 120 #[.int .i64 b, .int .i64 u, .int .i64 s] w fun e w' => e = .returned (.agg #[.int .i64 b, .int .i64 U, .int .i64 R]) ∧ Below w.heap.size w w' := by
  have hsz := fun w => size_any b w
  have f7 : s.tmod 4 = R := by rw [← hR]; exact Int.tmod_eq_emod_of_nonneg hs.1
  have f8 : wrap64 R = R := IntWalk.wrap64_in _ (by omega)
  have f9 : wrap64 U = U := by
    refine IntWalk.wrap64_in _ ?_
    rw [← hU]
    rcases four hb with ⟨_, h⟩ | ⟨_, h⟩ | ⟨_, h⟩ | ⟨_, h⟩ <;> rw [h] <;> omega
  have f6 : u.tmod (tsize b) = U := by rw [← hU]; exact Int.tmod_eq_emod_of_nonneg hu.1
  rcases four hb with ⟨rfl, h⟩ | ⟨rfl, h⟩ | ⟨rfl, h⟩ | ⟨rfl, h⟩
  all_goals
    rw [h] at f6
    simp only [h] at hsz
    clear h hb hu hs hU hR
    go_enter Tryz.func120, Tryz.ntmps120
    go_wp2_with (go_at_call 121; refine (hsz _).mono ?_; rintro e w1 ⟨rfl, hw⟩; obtain rfl := hw.symm)
    refine bodyPost_ret (v := .agg #[_, .int .i64 U, .int .i64 R]) (by simp [results, Tryz.results120, go_sem]) rfl ⟨rfl, ?_⟩
    exact below_alloc' _ _
set_option maxRecDepth 10000 in
set_option maxHeartbeats 1000000 in
theorem run_out {w0 w : World} {B : WB} {V : WV} {s : CS} {b : Nat} {tgA it at_ : Int} {m : Nat} (hm : s.n ≤ m ∧ s.cnt ≤ m) (hl : m + 3 < lim) (hlo : w0.heap.size ≤ b) (hz : tgA ≠ 0) (hg : (Lit.int .u64 tgA).wf = true) (hi : (Lit.int .u64 it).wf = true)
    (h : WS w0 w B V s) (hS : SlotAt w b 320 ⟨tgA, it, at_, 0, 0⟩ []) :
    Calls Tryz.prog 36 #[.pointer (some ⟨B.wb, 0, none⟩), .iface 223 (.pointer (some ⟨b, 0, none⟩)), .int .i64 9] w fun e w' => e = .returned (.int .i64 3) ∧ WS w0 w' B V (ost s tgA it at_ 3) ∧ SlotAt w' b 320 (osl s tgA it at_ 3) [] ∧ Fx wTy true b w w' := by
  have hst := fun (n : Nat) (hn : n < 3) (W : World) (h1 : WS w0 W B V (ost s tgA it at_ n)) h2 => out_step hm hl hlo hz hg hi n hn h1 h2
  have H := Lib.hid h; have HS := Lib.hid hS; have HST := Lib.hid hst; have HZ := Lib.hid hz
  clear h hS hst hg hi hm hl hz
  go_enter Tryz.func36, Tryz.ntmps36
  go_wp2
  go_loopw [7] (fun i wr => ∃ k : Nat, k ≤ 3 ∧ i = .int .i64 k ∧ WS w0 wr B V (ost s tgA it at_ k) ∧ SlotAt wr b 320 (osl s tgA it at_ k) [] ∧ Fx wTy true b w wr) (fun i _ => 3 - (intOf i).toNat)
  case atStart => exact ⟨0, by omega, rfl, H.out, HS.out, (below_fr (Below.refl _ w) wTy true).fx b⟩
  case round =>
    obtain ⟨k, hk, rfl, h1, h2, h3⟩ := hrel
    have hov := out_over k hk HZ.out h2
    by_cases hlt : k < 3
    · have hk9 : (k : Int) < 9 := by omega
      have hk3 : ((k : Int) == 3) = false := by rw [beq_eq_false_iff_ne]; omega
      rw [hk3] at hov
      have hcall := fun (W : World) (hb : Below wr.heap.size wr W) => HST.out k hlt W (h1.keep hb) (h2.below hb)
      have HC := Lib.hid hcall; have H3 := Lib.hid h3
      clear h1 h2 h3 hcall hk3
      go_wp2_with (first
        | (go_at_call 297; refine hov.mono ?_; rintro e w2 ⟨rfl, b2⟩; have hc := HC.out _ b2; have B2 := Lib.hid b2; clear b2 hov)
        | (go_at_call 298; refine hc.mono ?_; rintro e w3 ⟨⟨o, rfl⟩, g1, g2, g3⟩; have G1 := Lib.hid g1; have G2 := Lib.hid g2; have G3 := Lib.hid g3; clear g1 g2 g3 hc))
      exact ⟨⟨k + 1, by omega, by go_num, G1.out, G2.out, (H3.out.trans ((below_fr B2.out wTy true).fx b)).trans G3.out⟩, by simp [intOf]; omega⟩
    · obtain rfl : k = 3 := by omega
      have H1 := Lib.hid h1; have H2 := Lib.hid h2; have H3 := Lib.hid h3
      rw [show (((3 : Nat) : Int) == 3) = true from rfl] at hov
      clear h1 h2 h3
      go_wp2_with (go_at_call 297; refine hov.mono ?_; rintro e w2 ⟨rfl, b2⟩)
      go_ret
      exact ⟨rfl, H1.out.keep b2, H2.out.below b2, H3.out.trans ((below_fr b2 wTy true).fx b)⟩
/-! ## What they leave. -/
theorem ptg (x t : Int) (n i : Nat) (h0 : 0 ≤ x) (hn : n < 4) (hi : i < 4) (t0 : 0 ≤ t) (t1 : t ≤ 255) : tg (put x n t) i = if i = n then t else tg x i := by
  unfold put tg
  match n, hn, i, hi with
  | 0, _, 0, _ | 0, _, 1, _ | 0, _, 2, _ | 0, _, 3, _ | 1, _, 0, _ | 1, _, 1, _ | 1, _, 2, _ | 1, _, 3, _ | 2, _, 0, _ | 2, _, 1, _ | 2, _, 2, _ | 2, _, 3, _ | 3, _, 0, _ | 3, _, 1, _ | 3, _, 2, _ | 3, _, 3, _ => first | (simp; done) | (simp; omega)
theorem tag_with (x t k j : Int) (h0 : 0 ≤ x) (hk : 0 ≤ k ∧ k < 4) (hj : 0 ≤ j ∧ j < 4) (t0 : 0 ≤ t ∧ t ≤ 255) : tagOf (withOf x k t) j = if j = k then t else tagOf x j := by
  unfold withOf tagOf
  rw [if_pos hj, if_pos ⟨hk, t0⟩, if_pos hj, ptg x t _ _ h0 (by omega) (by omega) t0.1 t0.2]
  by_cases h : j = k
  · rw [if_pos h, if_pos (by rw [h])]
  · rw [if_neg h, if_neg (by omega)]
theorem cell_one {b b' u u' : Int} (hb : 1 ≤ b ∧ b ≤ 4) (hb' : 1 ≤ b' ∧ b' ≤ 4) (hu : 0 ≤ u ∧ u < tsize b) (hu' : 0 ≤ u' ∧ u' < tsize b') (h : tsize b + u = tsize b' + u') : b = b' ∧ u = u' := by
  rcases four hb with ⟨h1, h2⟩ | ⟨h1, h2⟩ | ⟨h1, h2⟩ | ⟨h1, h2⟩ <;> rcases four hb' with ⟨h3, h4⟩ | ⟨h3, h4⟩ | ⟨h3, h4⟩ | ⟨h3, h4⟩ <;> omega
theorem tags_at {b u : Int} (hu : 0 ≤ u ∧ u < tsize b) : tagsA b u = 4096 + 8 * (tsize b + u) := by
  unfold tagsA hasP; simp [hu]
theorem item_at {b u k : Int} (hu : 0 ≤ u ∧ u < tsize b) (hk : 0 ≤ k ∧ k < 4) : itemA b u k = 4096 + 8 * (tsize b + u) + 1 + k := by
  unfold itemA hasS hasP; simp [hu, hk]
/-- A slot says t and r; no other one's words have turned. -/
def Turned (s s' : CS) (b u k t r : Int) : Prop := ∀ b' u' k', (1 ≤ b' ∧ b' ≤ 4) → (0 ≤ u' ∧ u' < tsize b') → (0 ≤ k' ∧ k' < 4) →
  if b' = b ∧ u' = u ∧ k' = k then tagOf (s'.val (tagsA b' u')) k' = t ∧ s'.val (itemA b' u' k') = r else tagOf (s'.val (tagsA b' u')) k' = tagOf (s.val (tagsA b' u')) k' ∧ s'.val (itemA b' u' k') = s.val (itemA b' u' k')
theorem turned_of {s s' : CS} {b u k t r : Int} (hb : 1 ≤ b ∧ b ≤ 4) (hu : 0 ≤ u ∧ u < tsize b) (hk : 0 ≤ k ∧ k < 4) (ht : 0 ≤ t ∧ t ≤ 255) (h0 : 0 ≤ s.val (tagsA b u))
    (h1 : s'.val (tagsA b u) = withOf (s.val (tagsA b u)) k t) (h2 : s'.val (itemA b u k) = r) (h3 : ∀ x, x ≠ tagsA b u → x ≠ itemA b u k → s'.val x = s.val x) : Turned s s' b u k t r := by
  intro b' u' k' hb' hu' hk'
  have e1 := tags_at hu; have e2 := item_at hu hk; have e3 := tags_at hu'; have e4 := item_at hu' hk'
  by_cases hc : tsize b' + u' = tsize b + u
  · obtain ⟨rfl, rfl⟩ := cell_one hb' hb hu' hu hc
    by_cases hkk : k' = k
    · subst hkk
      rw [if_pos ⟨rfl, rfl, rfl⟩, h1, h2, tag_with _ _ _ _ h0 hk hk ht, if_pos rfl]
      exact ⟨rfl, rfl⟩
    · rw [if_neg (fun c => hkk c.2.2), h1, tag_with _ _ _ _ h0 hk hk' ht, if_neg hkk]
      exact ⟨rfl, h3 _ (by omega) (by omega)⟩
  · rw [if_neg (fun c => hc (by rw [c.1, c.2.1])), h3 _ (by omega) (by omega), h3 _ (by omega) (by omega)]
    exact ⟨rfl, rfl⟩
theorem put_turned (s : CS) {b u k t r : Int} (hb : 1 ≤ b ∧ b ≤ 4) (hu : 0 ≤ u ∧ u < tsize b) (hk : 0 ≤ k ∧ k < 4) (ht : 0 ≤ t ∧ t ≤ 255) (h0 : 0 ≤ s.val (tagsA b u)) : Turned s (pst s (tagsA b u) (itemA b u k) k t r 3) b u k t r := by
  have hne : tagsA b u ≠ itemA b u k := by rw [tags_at hu, item_at hu hk]; omega
  have e : (s.acc 2 (itemA b u k) r).val (tagsA b u) = s.val (tagsA b u) := CS.acc_val _ _ _ _ hne
  refine turned_of hb hu hk ht h0 ?_ ?_ ?_
  · show (CS.acc _ _ _ _).val _ = _
    rw [CS.acc_self, e]
  · show (CS.acc _ _ _ _).val _ = _
    rw [CS.acc_val _ _ _ _ hne.symm, CS.acc_val _ _ _ _ hne.symm, CS.acc_self]
  · intro x h1 h2
    show (CS.acc _ _ _ _).val _ = _
    rw [CS.acc_val _ _ _ _ h1, CS.acc_val _ _ _ _ h1, CS.acc_val _ _ _ _ h2]
theorem out_turned (s : CS) {b u k : Int} (hb : 1 ≤ b ∧ b ≤ 4) (hu : 0 ≤ u ∧ u < tsize b) (hk : 0 ≤ k ∧ k < 4) (h0 : 0 ≤ s.val (tagsA b u)) : Turned s (ost s (tagsA b u) (itemA b u k) k 3) b u k 0 0 := by
  have hne : tagsA b u ≠ itemA b u k := by rw [tags_at hu, item_at hu hk]; omega
  refine turned_of hb hu hk (by omega) h0 ?_ ?_ ?_
  · show (CS.acc _ _ _ _).val _ = _
    rw [CS.acc_val _ _ _ _ hne, CS.acc_self]
  · show (CS.acc _ _ _ _).val _ = _
    rw [CS.acc_self]
  · intro x h1 h2
    show (CS.acc _ _ _ _).val _ = _
    rw [CS.acc_val _ _ _ _ h2, CS.acc_val _ _ _ _ h1, CS.acc_val _ _ _ _ h1]
end Go.Proofs.YtdbgfidnccpmdaaGreat

/-
  Grows: layer 19's examples.
-/
namespace Go.Proofs.YtdbgfidnccpmdaaGreat
open Go.RowKit Go.Maps
set_option linter.unusedVariables false

theorem world12v (b : Int) (hb : 1 ≤ b ∧ b ≤ 12) (w : World) : Calls Tryz.prog 87 #[.int .i64 b] w fun e w' => ∃ B, e = .returned (.pointer (some ⟨B.wb, 0, none⟩)) ∧ WS w w' B (v0 ⟨b, 8, 3, 1, 16⟩) (CS.init [(2, tword b 0)]) := by
  have hn1 : Calls Tryz.prog 75 #[.agg #[.int .i64 b, .int .i64 8, .int .i64 3, .int .i64 1, .int .i64 16]] w fun e w' => ∃ B : WB, e = .returned (.tuple #[.pointer (some ⟨B.wb, 0, none⟩), .int .i64 0]) ∧ WS w w' B (v0 ⟨b, 8, 3, 1, 16⟩) (CS.init [(2, tword b 0)]) :=
    (wnew_ok ⟨b, 8, 3, 1, 16⟩ (by simp [Conf.ok]; omega) w).mono fun e w' ⟨wb, cb, ib, nb, he, g1, g2, g3, g4, g5, g6, g7⟩ => ⟨⟨wb, cb, ib, nb⟩, he, ws_of (Below.refl _ w) g1 g2 g3 g4 g5 g6 g7⟩
  clear hb
  go_enter Tryz.func87, Tryz.ntmps87
  go_wp2_with (go_at_call 75; with_reducible refine hn1.mono ?_; rintro e w1 ⟨B, rfl, h1⟩)
  go_ret
  exact ⟨_, rfl, h1⟩
theorem WS.slow {w0 w : World} {B : WB} {V : WV} {s : CS} (h : WS w0 w B V s) : w0.heap.size ≤ w.heap.size := h.below.size
end Go.Proofs.YtdbgfidnccpmdaaGreat

/-
  What a hop has to do: a Mark, an Out, a Put; a step of any of them in a world.
-/
namespace Go.Proofs.YtdbgfidnccpmdaaGreat
open Go.RowKit Go.Maps TagPure
set_option linter.unusedVariables false

inductive Dg where
  | mark (xs : List Int)
  | out (σ : SL)
  | put (σ : SL) (g r : Int)
def Dg.ty : Dg → TypeId
  | .mark _ => 225
  | .out _ => 223
  | .put _ _ _ => 219
def DgAt (w : World) (b : Nat) : Dg → Prop
  | .mark xs => MarkAt w b xs
  | .out σ => SlotAt w b 320 σ []
  | .put σ g r => SlotAt w b 317 σ [.int .i64 g, .int .i64 r]
def Dg.over : Dg → Bool
  | .mark xs => decide (xs = [])
  | .out σ => (σ.tg == 0) || (σ.ln == 3)
  | .put σ _ _ => (σ.tg == 0) || (σ.ln == 3)
structure SOk (σ : SL) : Prop where
  tg : (Lit.int .u64 σ.tg).wf = true
  it : (Lit.int .u64 σ.it).wf = true
  x : 0 ≤ σ.x ∧ σ.x < 18446744073709551616
  ln : σ.ln = 0 ∨ σ.ln = 1 ∨ σ.ln = 2 ∨ σ.ln = 3
def Dg.ok : Dg → Prop
  | .mark xs => ∀ a ∈ xs, (Lit.int .u64 a).wf = true
  | .out σ => SOk σ
  | .put σ _ r => SOk σ ∧ 0 ≤ r ∧ r < 9223372036854775808
/-- A step, of one that is not over. -/
def Dg.step (s : CS) : Dg → CS × Dg
  | .mark [] => (s, .mark [])
  | .mark (a :: r) => (s.acc 4 a (wu (s.val a + 1)), .mark r)
  | .out σ =>
    if σ.ln = 0 then (s.acc 1 σ.tg (s.val σ.tg), .out { σ with x := s.val σ.tg, ln := 1 })
    else if σ.ln = 1 then (s.acc 2 σ.tg (TagPure.withOf σ.x σ.at_ 0), .out { σ with ln := 2 })
    else (s.acc 2 σ.it 0, .out { σ with ln := 3 })
  | .put σ g r =>
    if σ.ln = 0 then (s.acc 2 σ.it r, .put { σ with ln := 1 } g r)
    else if σ.ln = 1 then (s.acc 1 σ.tg (s.val σ.tg), .put { σ with x := s.val σ.tg, ln := 2 } g r)
    else (s.acc 2 σ.tg (TagPure.withOf σ.x σ.at_ g), .put { σ with ln := 3 } g r)
section
variable {w w' : World} {b q : Nat} {d : Dg}
theorem DgAt.blk (h : DgAt w b d) : ∃ cs T, w.heap[b]? = some (.cells cs T (0, 0)) ∧ (T = 322 ∨ T = 320 ∨ T = 317) := by
  cases d with
  | mark xs => obtain ⟨v, h1, -⟩ := h; exact ⟨_, _, h1, .inl rfl⟩
  | out σ => exact ⟨_, _, h, .inr (.inl rfl)⟩
  | put σ g r => exact ⟨_, _, h, .inr (.inr rfl)⟩
theorem DgAt.lt (h : DgAt w b d) : b < w.heap.size := by obtain ⟨cs, T, h1, -⟩ := h.blk; exact (Array.getElem?_eq_some_iff.1 h1).1
theorem DgAt.below (h : DgAt w b d) (hb : Below w.heap.size w w') : DgAt w' b d := by
  cases d with
  | mark xs => exact MarkAt.keep h hb
  | out σ => exact SlotAt.below h hb
  | put σ g r => exact SlotAt.below h hb
/-- None of another one's words. -/
theorem DgAt.fx {K : TypeId → Bool} {mp : Bool} {c : Nat} (h : DgAt w b d) (hf : Fx K mp c w w') (h1 : K 322 = false) (h2 : K 59 = false) (h3 : K 320 = false) (h4 : K 317 = false) (hc : ∃ cs T fr, w.heap[c]? = some (.cells cs T fr) ∧ T ≠ 59) (hne : b ≠ c) : DgAt w' b d := by
  cases d with
  | mark xs =>
    obtain ⟨v, g1, g2⟩ := h
    refine ⟨v, hf.cells _ _ _ _ g1 h1 hne, ?_⟩
    rcases g2 with g2 | ⟨g, off, cur, rfl, g3, g4⟩
    · exact .inl g2
    · refine .inr ⟨g, off, cur, rfl, hf.cells _ _ _ _ g3 h2 ?_, g4⟩
      rintro rfl
      obtain ⟨cs, T, fr, e, hT⟩ := hc
      rw [g3] at e
      simp only [Option.some.injEq, Obj.cells.injEq] at e
      exact hT e.2.1.symm
  | out σ => exact hf.cells _ _ _ _ h h3 hne
  | put σ g r => exact hf.cells _ _ _ _ h h4 hne
theorem Dg.ok_step {s : CS} (h : d.ok) (hs : ∀ a, 0 ≤ s.val a ∧ s.val a < 18446744073709551616) : (d.step s).2.ok := by
  cases d with
  | mark xs => cases xs with
    | nil => exact h
    | cons a r => exact fun x hx => h x (List.mem_cons_of_mem _ hx)
  | out σ =>
    obtain ⟨h1, h2, h3, h4⟩ := h
    unfold Dg.step
    dsimp only
    split
    · exact ⟨h1, h2, hs _, .inr (.inl rfl)⟩
    · split
      · exact ⟨h1, h2, h3, .inr (.inr (.inl rfl))⟩
      · exact ⟨h1, h2, h3, .inr (.inr (.inr rfl))⟩
  | put σ g r =>
    obtain ⟨⟨h1, h2, h3, h4⟩, hr⟩ := h
    unfold Dg.step
    dsimp only
    split
    · exact ⟨⟨h1, h2, h3, .inr (.inl rfl)⟩, hr⟩
    · split
      · exact ⟨⟨h1, h2, hs _, .inr (.inr (.inl rfl))⟩, hr⟩
      · exact ⟨⟨h1, h2, h3, .inr (.inr (.inr rfl))⟩, hr⟩
end
theorem dgover_mark {w : World} {b : Nat} {xs : List Int} (h : DgAt w b (.mark xs)) : Calls Tryz.prog 303 #[.pointer (some ⟨b, 0, none⟩)] w fun e w' => e = .returned (.bool (Dg.mark xs).over) ∧ Below w.heap.size w w' :=
  (over_any h).mono fun e w' ⟨h1, h2⟩ => ⟨h1, by subst h2; exact Below.refl _ _⟩
theorem dgover_out {w : World} {b : Nat} {σ : SL} (h : DgAt w b (.out σ)) : Calls Tryz.prog 297 #[.pointer (some ⟨b, 0, none⟩)] w fun e w' => e = .returned (.bool (Dg.out σ).over) ∧ Below w.heap.size w w' :=
  Outover h _ _ rfl rfl
theorem dgover_put {w : World} {b : Nat} {σ : SL} {g r : Int} (h : DgAt w b (.put σ g r)) : Calls Tryz.prog 287 #[.pointer (some ⟨b, 0, none⟩)] w fun e w' => e = .returned (.bool (Dg.put σ g r).over) ∧ Below w.heap.size w w' :=
  Putover h _ _ rfl rfl
section
variable {w0 w : World} {B : WB} {V : WV} {s : CS} {b : Nat} (h : WS w0 w B V s) (hr : s.room) (hlo : w0.heap.size ≤ b)
include h hr hlo
abbrev DgPost (w0 w : World) (B : WB) (V : WV) (s : CS) (b : Nat) (d : Dg) (e : Ending) (w' : World) : Prop := (∃ v, e = .returned (.bool v)) ∧ WS w0 w' B V (d.step s).1 ∧ DgAt w' b (d.step s).2 ∧ Fx wTy true b w w'
theorem dgstep_mark {xs : List Int} (hd : DgAt w b (.mark xs)) (ho : (Dg.mark xs).over = false) (hk : (Dg.mark xs).ok) : Calls Tryz.prog 304 #[.pointer (some ⟨b, 0, none⟩), .pointer (some ⟨B.wb, 0, none⟩)] w (DgPost w0 w B V s b (.mark xs)) := by
  cases xs with
  | nil => cases ho
  | cons a r => exact (wmstep h hr hd hlo (hk a (List.mem_cons_self))).mono fun e w' ⟨h1, h2, h3, h4⟩ => ⟨⟨_, h1⟩, h2, h3, h4⟩
theorem dgstep_out {σ : SL} (hd : DgAt w b (.out σ)) (ho : (Dg.out σ).over = false) (hk : (Dg.out σ).ok) : Calls Tryz.prog 298 #[.pointer (some ⟨b, 0, none⟩), .pointer (some ⟨B.wb, 0, none⟩)] w (DgPost w0 w B V s b (.out σ)) := by
  have ho2 : (σ.tg == 0) = false ∧ (σ.ln == 3) = false := by simpa [Dg.over] using ho
  have hz : σ.tg ≠ 0 := by have := ho2.1; simpa using this
  have hl3 : σ.ln ≠ 3 := by have := ho2.2; simpa using this
  rcases hk.ln with hl | hl | hl | hl
  · refine (out_step0 h hr hlo hd hz hk.tg hl).mono fun e w' ⟨h1, h2, h3, h4⟩ => ⟨⟨_, h1⟩, ?_, ?_, h4⟩ <;> (unfold Dg.step; dsimp only; rw [if_pos hl]); exact h2; exact h3
  · refine (out_step1 h hr hlo hd hz hk.tg hl hk.x).mono fun e w' ⟨h1, h2, h3, h4⟩ => ⟨⟨_, h1⟩, ?_, ?_, h4⟩ <;> (unfold Dg.step; dsimp only; rw [if_neg (by omega), if_pos hl]); exact h2; exact h3
  · refine (out_step2 h hr hlo hd hz hk.tg hl hk.it).mono fun e w' ⟨h1, h2, h3, h4⟩ => ⟨⟨_, h1⟩, ?_, ?_, h4⟩ <;> (unfold Dg.step; dsimp only; rw [if_neg (by omega), if_neg (by omega)]); exact h2; exact h3
  · exact absurd hl hl3
theorem dgstep_put {σ : SL} {g r : Int} (hd : DgAt w b (.put σ g r)) (ho : (Dg.put σ g r).over = false) (hk : (Dg.put σ g r).ok) : Calls Tryz.prog 288 #[.pointer (some ⟨b, 0, none⟩), .pointer (some ⟨B.wb, 0, none⟩)] w (DgPost w0 w B V s b (.put σ g r)) := by
  have ho2 : (σ.tg == 0) = false ∧ (σ.ln == 3) = false := by simpa [Dg.over] using ho
  have hz : σ.tg ≠ 0 := by have := ho2.1; simpa using this
  have hl3 : σ.ln ≠ 3 := by have := ho2.2; simpa using this
  obtain ⟨hk, hrr⟩ := hk
  rcases hk.ln with hl | hl | hl | hl
  · refine (put_step0 h hr hlo hd hz hk.tg hl hk.it hrr).mono fun e w' ⟨h1, h2, h3, h4⟩ => ⟨⟨_, h1⟩, ?_, ?_, h4⟩ <;> (unfold Dg.step; dsimp only; rw [if_pos hl]); exact h2; exact h3
  · refine (put_step1 h hr hlo hd hz hk.tg hl).mono fun e w' ⟨h1, h2, h3, h4⟩ => ⟨⟨_, h1⟩, ?_, ?_, h4⟩ <;> (unfold Dg.step; dsimp only; rw [if_neg (by omega), if_pos hl]); exact h2; exact h3
  · refine (put_step2 h hr hlo hd hz hk.tg hl hk.x).mono fun e w' ⟨h1, h2, h3, h4⟩ => ⟨⟨_, h1⟩, ?_, ?_, h4⟩ <;> (unfold Dg.step; dsimp only; rw [if_neg (by omega), if_neg (by omega)]); exact h2; exact h3
  · exact absurd hl hl3
end
end Go.Proofs.YtdbgfidnccpmdaaGreat

/-
  Hops: what lies in memory; what is told of them; how they begin; on to what is not over.
-/
namespace Go.Proofs.YtdbgfidnccpmdaaGreat
open Go.RowKit Go.Maps TagPure
set_option linter.unusedVariables false

/-- Hops' words; what the hop has to do. -/
structure HP where
  way : List (Int × Int × Int)
  left : Nat
  tag : Int
  load : Bool
  l : List Dg
def HP.on (x : HP) : HP := match x.l.dropWhile Dg.over with
  | [] => { x with l := [], left := x.left - 1, load := false }
  | d :: r => { x with l := d :: r }
def enc3 (p : Int × Int × Int) : List Value := [.int .i64 p.1, .int .i64 p.2.1, .int .i64 p.2.2]
def flat3 (l : List (Int × Int × Int)) : List Value := l.flatMap enc3
theorem flat3_len (l : List (Int × Int × Int)) : (flat3 l).length = l.length * 3 := by
  induction l with
  | nil => rfl
  | cons x r ih => show (enc3 x ++ flat3 r).length = _; rw [List.length_append, ih]; simp [enc3]; omega
theorem flat3_one (l : List (Int × Int × Int)) : ∀ u ∈ flat3 l, u.oneCell' = true := by
  intro u hu
  obtain ⟨p, _, hp⟩ := List.mem_flatMap.1 hu
  simp [enc3] at hp
  rcases hp with rfl | rfl | rfl <;> rfl
theorem flat3_at (l : List (Int × Int × Int)) (k : Nat) (hk : k < l.length) (j : Nat) (hj : j < 3) : (flat3 l)[k * 3 + j]? = (enc3 l[k])[j]? := by
  induction l generalizing k with
  | nil => simp at hk
  | cons x r ih =>
    have e : flat3 (x :: r) = enc3 x ++ flat3 r := rfl
    rw [e]
    match k with
    | 0 =>
      rw [List.getElem?_append_left (by simp [enc3]; omega)]
      simp
    | k + 1 =>
      rw [List.getElem?_append_right (by simp [enc3]; omega)]
      have := ih k (by simp at hk; omega)
      simp only [List.getElem_cons_succ]
      rw [← this]
      congr 1
      simp [enc3]; omega
theorem own_cell3 {w : World} {base T g cap n : Nat} {L : List (Int × Int × Int)} (h : w.ownsRow base T 3 (.slice (some ⟨g, 0, none⟩) n cap) n (flat3 L)) (i : Nat) (x : Int × Int × Int) (hx : L[i]? = some x) : w.cell? ⟨g, i * 3, none⟩ = some (.int .i64 x.1) ∧ w.cell? ⟨g, i * 3 + 1, none⟩ = some (.int .i64 x.2.1) ∧ w.cell? ⟨g, i * 3 + 2, none⟩ = some (.int .i64 x.2.2) ∧ n ≤ cap := by
  obtain ⟨h1, ⟨e, h0⟩ | ⟨g', cap', cur, e, hb, hg, hn, hm, hs, ht⟩⟩ := h
  · simp at e
  · simp only [Value.slice.injEq, Option.some.injEq, Addr.mk.injEq, and_true, true_and] at e
    obtain ⟨rfl, rfl⟩ := e
    obtain ⟨hi, rfl⟩ := List.getElem?_eq_some_iff.1 hx
    have hln : L.length = n := by rw [flat3_len] at h1; omega
    have hc : ∀ j, j < 3 → w.cell? ⟨g, i * 3 + j, none⟩ = (enc3 L[i])[j]? := fun j hj => by
      rw [hcell hg, ← flat3_at L i hi j hj, ← ht, List.getElem?_take, if_pos (by omega)]
      simp
    exact ⟨hc 0 (by omega), hc 1 (by omega), hc 2 (by omega), hn⟩
def dgv (q : Nat × Dg) : Value := .iface q.2.ty (.pointer (some ⟨q.1, 0, none⟩))
/-- What is to do, from somewhere in its block on. -/
def DoRow (w : World) (v : Value) (l : List (Nat × Dg)) : Prop :=
  ∃ a c, v = .slice a l.length c ∧ l.length ≤ c ∧ c ≤ maxLen ∧ (l = [] ∨ ∃ g o cur, a = some ⟨g, o, none⟩ ∧ w.heap[g]? = some (.cells cur 281 (0, 0)) ∧ ∀ i, (hi : i < l.length) → cur[o + i]? = some (dgv l[i]))
def HP.cells (x : HP) (vw vd : Value) : Array Value := #[vw, .int .i64 x.left, .int .i64 x.tag, .bool x.load, vd]
structure HopsAt (w : World) (lo hb : Nat) (x : HP) (qs : List (Nat × Dg)) : Prop where
  low : lo ≤ hb
  eq : x.l = qs.map Prod.snd
  few : x.way.length ≤ 100000
  lt : x.left < x.way.length ∨ x.left = 0
  ex : ∃ vw vd, w.heap[hb]? = some (.cells (x.cells vw vd) 280 (0, 0)) ∧ w.ownsRow lo 43 3 vw x.way.length (flat3 x.way) ∧ DoRow w vd qs
  dos : ∀ q ∈ qs, lo ≤ q.1 ∧ DgAt w q.1 q.2 ∧ q.2.ok
  nd : (qs.map Prod.fst).Nodup
/-- What is told apart: all but the world's words and some blocks. -/
structure FS (S : List Nat) (w w' : World) : Prop where
  size : w.heap.size ≤ w'.heap.size
  cells : ∀ (k : Nat) (cs : Array Value) (T : TypeId) (fr : Nat × Nat), w.heap[k]? = some (.cells cs T fr) → wTy T = false → k ∉ S → w'.heap[k]? = some (.cells cs T fr)
section
variable {w w' w2 : World} {lo lo' hb : Nat} {x y : HP} {qs : List (Nat × Dg)}
theorem FS.refl (S : List Nat) (w : World) : FS S w w := ⟨Nat.le_refl _, fun _ _ _ _ h _ _ => h⟩
theorem below_fs (S : List Nat) (hb : Below w.heap.size w w') : FS S w w' := ⟨hb.size, fun k cs T fr h _ _ => (hb.block k (Array.getElem?_eq_some_iff.1 h).1).trans h⟩
theorem Fx.fs {mp : Bool} {b : Nat} {S : List Nat} (h : Fx wTy mp b w w') (hb : b ∈ S) : FS S w w' := ⟨h.size, fun k cs T fr g1 g2 g3 => h.cells k cs T fr g1 g2 (fun c => g3 (c ▸ hb))⟩
theorem Fx.fs2 {mp : Bool} {b : Nat} {S : List Nat} {w0 : World} (h0 : FS S w0 w) (h : Fx wTy mp b w w') (hb : b ∈ S ∨ w0.heap.size ≤ b) : FS S w0 w' := ⟨Nat.le_trans h0.size h.size, fun k cs T fr g1 g2 g3 => h.cells k cs T fr (h0.cells k cs T fr g1 g2 g3) g2 (fun c => by
  subst c
  rcases hb with hb | hb
  · exact g3 hb
  · have := (Array.getElem?_eq_some_iff.1 g1).1; omega)⟩
theorem FS.trans {S : List Nat} (h : FS S w w') (k : FS S w' w2) : FS S w w2 := ⟨Nat.le_trans h.size k.size, fun i cs T fr h1 h2 h3 => k.cells i cs T fr (h.cells i cs T fr h1 h2 h3) h2 h3⟩
theorem DoRow.of {v : Value} (hv : DoRow w v qs) (hf : ∀ (g : Nat) (cur : Array Value), w.heap[g]? = some (.cells cur 281 (0, 0)) → w'.heap[g]? = some (.cells cur 281 (0, 0))) : DoRow w' v qs := by
  obtain ⟨a, c, h1, h2, h3, h4⟩ := hv
  exact ⟨a, c, h1, h2, h3, h4.imp id fun ⟨g, o, cur, h5, h6, h7⟩ => ⟨g, o, cur, h5, hf g cur h6, h7⟩⟩
theorem own_of {base e size n : Nat} {v : Value} {xs : List Value} (h : w.ownsRow base e size v n xs) (hf : ∀ (g : Nat) (cur : Array Value), w.heap[g]? = some (.cells cur e (0, 0)) → w'.heap[g]? = some (.cells cur e (0, 0))) : w'.ownsRow base e size v n xs :=
  ⟨h.1, h.2.imp id fun ⟨g, cap, cur, h1, h2, h3, h4⟩ => ⟨g, cap, cur, h1, h2, hf g cur h3, h4⟩⟩
theorem HopsAt.below (h : HopsAt w lo hb x qs) (b : Below w.heap.size w w') : HopsAt w' lo hb x qs := by
  obtain ⟨h1, h2, h3, h4, ⟨vw, vd, g1, g2, g3⟩, h6, h7⟩ := h
  have k : ∀ {i : Nat} {o : Obj}, w.heap[i]? = some o → w'.heap[i]? = some o := fun hi => (b.block _ (Array.getElem?_eq_some_iff.1 hi).1).trans hi
  exact ⟨h1, h2, h3, h4, ⟨vw, vd, k g1, own_of g2 (fun _ _ hi => k hi), g3.of (fun _ _ hi => k hi)⟩, fun q hq => ⟨(h6 q hq).1, (h6 q hq).2.1.below b, (h6 q hq).2.2⟩, h7⟩
theorem HopsAt.lower (h : HopsAt w lo hb x qs) (hl : lo' ≤ lo) : HopsAt w lo' hb x qs := by
  obtain ⟨h1, h2, h3, h4, ⟨vw, vd, g1, ⟨g2a, g2⟩, g3⟩, h6, h7⟩ := h
  exact ⟨Nat.le_trans hl h1, h2, h3, h4, ⟨vw, vd, g1, ⟨g2a, g2.imp id fun ⟨g, cap, cur, e1, e2, e3⟩ => ⟨g, cap, cur, e1, Nat.le_trans hl e2, e3⟩⟩, g3⟩, fun q hq => ⟨Nat.le_trans hl (h6 q hq).1, (h6 q hq).2⟩, h7⟩
/-- What a step elsewhere leaves. -/
theorem HopsAt.fs {S : List Nat} (h : HopsAt w lo hb x qs) (hf : FS S w w') (hS : ∀ k ∈ S, ∃ cs T fr, w.heap[k]? = some (.cells cs T fr) ∧ T ≠ 43 ∧ T ≠ 281 ∧ T ≠ 59) (hn : hb ∉ S) (hq : ∀ q ∈ qs, q.1 ∉ S) : HopsAt w' lo hb x qs := by
  obtain ⟨h1, h2, h3, h4, ⟨vw, vd, g1, g2, g3⟩, h6, h7⟩ := h
  have k : ∀ (T : TypeId), wTy T = false → (T = 43 ∨ T = 281 ∨ T = 59) → ∀ (g : Nat) (cur : Array Value), w.heap[g]? = some (.cells cur T (0, 0)) → w'.heap[g]? = some (.cells cur T (0, 0)) := fun T hT hT2 g cur hg => by
    refine hf.cells _ _ _ _ hg hT fun hm => ?_
    obtain ⟨cs, T2, fr, e, n1, n2, n3⟩ := hS g hm
    rw [hg] at e
    simp only [Option.some.injEq, Obj.cells.injEq] at e
    rcases hT2 with rfl | rfl | rfl
    · exact n1 e.2.1.symm
    · exact n2 e.2.1.symm
    · exact n3 e.2.1.symm
  refine ⟨h1, h2, h3, h4, ⟨vw, vd, hf.cells _ _ _ _ g1 rfl hn, own_of g2 (k _ rfl (.inl rfl)), g3.of (k _ rfl (.inr (.inl rfl)))⟩, fun q hq2 => ⟨(h6 q hq2).1, ?_, (h6 q hq2).2.2⟩, h7⟩
  have hd := (h6 q hq2).2.1
  have hnq := hq q hq2
  obtain ⟨b, d⟩ := q
  cases d with
  | mark xs =>
    obtain ⟨v, e1, e2⟩ := hd
    refine ⟨v, hf.cells _ _ _ _ e1 rfl hnq, ?_⟩
    rcases e2 with e2 | ⟨g, off, cur, rfl, e3, e4⟩
    · exact .inl e2
    · exact .inr ⟨g, off, cur, rfl, k _ rfl (.inr (.inr rfl)) _ _ e3, e4⟩
  | out σ => exact hf.cells _ _ _ _ hd rfl hnq
  | put σ g r => exact hf.cells _ _ _ _ hd rfl hnq
theorem HopsAt.blk (h : HopsAt w lo hb x qs) : ∃ cs, w.heap[hb]? = some (.cells cs 280 (0, 0)) := by obtain ⟨_, _, g1, _⟩ := h.ex; exact ⟨_, g1⟩
theorem HopsAt.ltb (h : HopsAt w lo hb x qs) : hb < w.heap.size := by obtain ⟨cs, b1⟩ := h.blk; exact (Array.getElem?_eq_some_iff.1 b1).1
theorem HopsAt.c (h : HopsAt w lo hb x qs) : w.cell? ⟨hb, 1, none⟩ = some (.int .i64 x.left) ∧ w.cell? ⟨hb, 2, none⟩ = some (.int .i64 x.tag) ∧ w.cell? ⟨hb, 3, none⟩ = some (.bool x.load) := by
  obtain ⟨_, _, g1, _⟩ := h.ex
  exact ⟨hcell g1 1, hcell g1 2, hcell g1 3⟩
theorem HopsAt.f (h : HopsAt w lo hb x qs) (o : Nat) : w.frozen? ⟨hb, o, none⟩ = false := by obtain ⟨cs, b1⟩ := h.blk; exact hfrz b1 o
theorem HopsAt.ne (h : HopsAt w lo hb x qs) : ∀ q ∈ qs, q.1 ≠ hb := fun q hq c => by
  obtain ⟨cs, b1⟩ := h.blk
  obtain ⟨cs2, T, b2, hT⟩ := (h.dos q hq).2.1.blk
  rw [c, b1] at b2
  simp only [Option.some.injEq, Obj.cells.injEq] at b2
  rw [← b2.2.1] at hT
  revert hT
  decide
/-- A word of the Hops' own is written. -/
theorem HopsAt.set (h : HopsAt w lo hb x qs) (o : Nat) (u : Value) (h1 : y.way = x.way) (h2 : y.l = x.l) (h3 : y.left < y.way.length ∨ y.left = 0) (hc : ∀ vw vd, (x.cells vw vd).setIfInBounds o u = y.cells vw vd) : HopsAt (w.setCell ⟨hb, o, none⟩ u) lo hb y qs := by
  have hne := h.ne
  obtain ⟨k1, k2, k3, k4, ⟨vw, vd, g1, g2, g3⟩, k6, k7⟩ := h
  have k : ∀ {i : Nat} {ob : Obj}, w.heap[i]? = some ob → i ≠ hb → (w.setCell ⟨hb, o, none⟩ u).heap[i]? = some ob := fun hi hn => (Below.heap_setCell _ _ _ _ hn).trans hi
  have kt : ∀ (T : TypeId), T ≠ 280 → ∀ (g : Nat) (cur : Array Value), w.heap[g]? = some (.cells cur T (0, 0)) → (w.setCell ⟨hb, o, none⟩ u).heap[g]? = some (.cells cur T (0, 0)) := fun T hT g cur hg => k hg fun c => by
    subst c
    rw [hg] at g1
    simp only [Option.some.injEq, Obj.cells.injEq] at g1
    exact hT g1.2.1
  have g := setCell_same g1 o u
  rw [hc] at g
  refine ⟨k1, by rw [h2, k2], by rw [h1]; exact k3, h3, ⟨vw, vd, g, ?_, g3.of (kt _ (by decide))⟩, fun q hq => ⟨(k6 q hq).1, (k6 q hq).2.1.fx (set_fx (fun _ => false) false w hb o u) rfl rfl rfl rfl ⟨_, _, _, g1, by decide⟩ (hne q hq), (k6 q hq).2.2⟩, k7⟩
  rw [h1]
  exact own_of g2 (kt _ (by decide))
/-- What is to do is written. -/
theorem HopsAt.setl (h : HopsAt w lo hb x qs) {v : Value} {qs' : List (Nat × Dg)} (hv : DoRow w v qs') (hd : ∀ q ∈ qs', lo ≤ q.1 ∧ DgAt w q.1 q.2 ∧ q.2.ok) (hn : (qs'.map Prod.fst).Nodup) : HopsAt (w.setCell ⟨hb, 4, none⟩ v) lo hb { x with l := qs'.map Prod.snd } qs' := by
  obtain ⟨k1, k2, k3, k4, ⟨vw, vd, g1, g2, g3⟩, k6, k7⟩ := h
  have k : ∀ {i : Nat} {ob : Obj}, w.heap[i]? = some ob → i ≠ hb → (w.setCell ⟨hb, 4, none⟩ v).heap[i]? = some ob := fun hi hn => (Below.heap_setCell _ _ _ _ hn).trans hi
  have kt : ∀ (T : TypeId), T ≠ 280 → ∀ (g : Nat) (cur : Array Value), w.heap[g]? = some (.cells cur T (0, 0)) → (w.setCell ⟨hb, 4, none⟩ v).heap[g]? = some (.cells cur T (0, 0)) := fun T hT g cur hg => k hg fun c => by
    subst c
    rw [hg] at g1
    simp only [Option.some.injEq, Obj.cells.injEq] at g1
    exact hT g1.2.1
  refine ⟨k1, rfl, k3, k4, ⟨vw, v, setCell_same g1 4 v, own_of g2 (kt _ (by decide)), hv.of (kt _ (by decide))⟩, fun q hq => ⟨(hd q hq).1, (hd q hq).2.1.fx (set_fx (fun _ => false) false w hb 4 v) rfl rfl rfl rfl ⟨_, _, _, g1, by decide⟩ (fun c => ?_), (hd q hq).2.2⟩, hn⟩
  obtain ⟨cs2, T, b2, hT⟩ := (hd q hq).2.1.blk
  rw [c, g1] at b2
  simp only [Option.some.injEq, Obj.cells.injEq] at b2
  rw [← b2.2.1] at hT
  revert hT
  decide
theorem do_pop {v : Value} {q : Nat × Dg} {r : List (Nat × Dg)} (h : DoRow w v (q :: r)) : ∃ g o k, v = .slice (some ⟨g, o, none⟩) (r.length + 1) (k + 1) ∧ w.cell? ⟨g, o, none⟩ = some (dgv q) ∧ r.length ≤ k ∧ k + 1 ≤ maxLen ∧ DoRow w (.slice (some ⟨g, if k = 0 then o else o + 1, none⟩) r.length k) r := by
  obtain ⟨a, c, rfl, h1, h2, h3 | ⟨g, o, cur, rfl, hg, hi⟩⟩ := h
  · cases h3
  · have h0 := hi 0 (by simp)
    rw [Nat.add_zero] at h0
    rw [List.length_cons] at h1
    obtain ⟨k, rfl⟩ : ∃ k, c = k + 1 := ⟨c - 1, by omega⟩
    refine ⟨g, o, k, rfl, by rw [hcell hg]; exact h0, by omega, h2, _, k, rfl, by omega, by omega, ?_⟩
    by_cases hk : k = 0
    · exact .inl (List.eq_nil_of_length_eq_zero (by omega))
    · rw [if_neg hk]
      refine .inr ⟨g, o + 1, cur, rfl, hg, fun i hir => ?_⟩
      have := hi (i + 1) (by simp; exact hir)
      rw [show o + 1 + i = o + (i + 1) by omega, this]
      simp
theorem do_nil {v : Value} (h : DoRow w v []) : ∃ a c, v = .slice a 0 c := by obtain ⟨a, c, h1, -⟩ := h; exact ⟨a, c, h1⟩
end
/-- A world, and Hops in it; what else has changed since. -/
structure HMB (w0 w W : World) (B : WB) (V : WV) (s : CS) (S : List Nat) (hb : Nat) (x : HP) (qs : List (Nat × Dg)) : Prop where
  ws : WS w0 W B V s
  hp : HopsAt W w0.heap.size hb x qs
  fs : FS S w W
  own : hb ∈ S ∨ w.heap.size ≤ hb
  owns : ∀ q ∈ qs, q.1 ∈ S ∨ w.heap.size ≤ q.1
section
variable {w0 w W W' : World} {B : WB} {V : WV} {s s' : CS} {S : List Nat} {hb : Nat} {x y : HP} {qs : List (Nat × Dg)}
theorem HMB.below (h : HMB w0 w W B V s S hb x qs) (b : Below W.heap.size W W') : HMB w0 w W' B V s S hb x qs := ⟨h.ws.keep b, h.hp.below b, h.fs.trans (below_fs S b), h.own, h.owns⟩
theorem HMB.set (h : HMB w0 w W B V s S hb x qs) (o : Nat) (u : Value) (h1 : y.way = x.way) (h2 : y.l = x.l) (h3 : y.left < y.way.length ∨ y.left = 0) (hc : ∀ vw vd, (x.cells vw vd).setIfInBounds o u = y.cells vw vd) : HMB w0 w (W.setCell ⟨hb, o, none⟩ u) B V s S hb y qs := by
  obtain ⟨cs, b1⟩ := h.hp.blk
  exact ⟨set_take h.ws b1 rfl h.hp.low u, h.hp.set o u h1 h2 h3 hc, (set_fx wTy true W hb o u).fs2 h.fs h.own, h.own, h.owns⟩
theorem HMB.setl (h : HMB w0 w W B V s S hb x qs) {v : Value} {qs' : List (Nat × Dg)} (hv : DoRow W v qs') (hd : ∀ q ∈ qs', w0.heap.size ≤ q.1 ∧ DgAt W q.1 q.2 ∧ q.2.ok) (hn : (qs'.map Prod.fst).Nodup) (ho : ∀ q ∈ qs', q.1 ∈ S ∨ w.heap.size ≤ q.1) : HMB w0 w (W.setCell ⟨hb, 4, none⟩ v) B V s S hb { x with l := qs'.map Prod.snd } qs' := by
  obtain ⟨cs, b1⟩ := h.hp.blk
  exact ⟨set_take h.ws b1 rfl h.hp.low v, h.hp.setl hv hd hn, (set_fx wTy true W hb 4 v).fs2 h.fs h.own, h.own, ho⟩
theorem HMB.move (h : HMB w0 w W B V s S hb x qs) (h2 : WS w0 W' B V s') (hf : Fr wTy true W W') : HMB w0 w W' B V s' S hb x qs := by
  have hf2 : FS [] W W' := ⟨hf.size, fun k cs T fr g1 g2 _ => hf.cells k cs T fr g1 g2⟩
  exact ⟨h2, h.hp.fs hf2 (fun k hk => by cases hk) (by simp) (fun q _ => by simp), ⟨Nat.le_trans h.fs.size hf.size, fun k cs T fr g1 g2 g3 => hf.cells k cs T fr (h.fs.cells k cs T fr g1 g2 g3) g2⟩, h.own, h.owns⟩
/-- The first of what is to do has made a step. -/
theorem HMB.step {b : Nat} {d : Dg} {r : List (Nat × Dg)} (h : HMB w0 w W B V s S hb x ((b, d) :: r)) (h2 : WS w0 W' B V (d.step s).1) (h3 : DgAt W' b (d.step s).2) (hf : Fx wTy true b W W') : HMB w0 w W' B V (d.step s).1 S hb { x with l := (d.step s).2 :: r.map Prod.snd } ((b, (d.step s).2) :: r) := by
  have hne := h.hp.ne (b, d) (List.mem_cons_self)
  have hbk := (h.hp.dos (b, d) (List.mem_cons_self)).2.1.blk
  have hown := h.owns (b, d) (List.mem_cons_self)
  have hbd : ∀ a, 0 ≤ s.val a ∧ s.val a < 18446744073709551616 := fun a => wf_bd (h.ws.own.wf a)
  obtain ⟨k1, k2, k3, k4, ⟨vw, vd, g1, g2, g3⟩, k6, k7⟩ := h.hp
  obtain ⟨cs, T, hb1, hT⟩ := hbk
  have kt : ∀ (T2 : TypeId), wTy T2 = false → (T2 ≠ 322 ∧ T2 ≠ 320 ∧ T2 ≠ 317) → ∀ (g : Nat) (cur : Array Value), W.heap[g]? = some (.cells cur T2 (0, 0)) → W'.heap[g]? = some (.cells cur T2 (0, 0)) := fun T2 hT2 hn g cur hg => hf.cells _ _ _ _ hg hT2 fun c => by
    subst c
    rw [hg] at hb1
    simp only [Option.some.injEq, Obj.cells.injEq] at hb1
    rw [← hb1.2.1] at hT
    rcases hT with c | c | c
    · exact hn.1 c
    · exact hn.2.1 c
    · exact hn.2.2 c
  have hnd : b ∉ r.map Prod.fst := by simp only [List.map_cons, List.nodup_cons] at k7; exact k7.1
  refine ⟨h2, ⟨k1, rfl, k3, k4, ⟨vw, vd, hf.cells _ _ _ _ g1 rfl (fun c => hne c.symm), own_of g2 (kt _ rfl (by decide)), ?_⟩, ?_, ?_⟩, hf.fs2 h.fs hown, h.own, ?_⟩
  · have g4 := g3.of (kt _ rfl (by decide))
    obtain ⟨a, c, e1, e2, e3, e4⟩ := g4
    refine ⟨a, c, e1, e2, e3, .inr ?_⟩
    rcases e4 with e4 | ⟨g, o, cur, e5, e6, e7⟩
    · cases e4
    · refine ⟨g, o, cur, e5, e6, fun i hi => ?_⟩
      have := e7 i hi
      rw [this]
      match i with
      | 0 =>
        have hty : (d.step s).2.ty = d.ty := by
          cases d with
          | mark xs => cases xs <;> rfl
          | out σ => unfold Dg.step; dsimp only; split; rfl; split <;> rfl
          | put σ g r => unfold Dg.step; dsimp only; split; rfl; split <;> rfl
        simp only [List.getElem_cons_zero, dgv, hty]
      | i + 1 => rfl
  · intro q hq
    rcases List.mem_cons.1 hq with rfl | hq
    · exact ⟨(k6 (b, d) (List.mem_cons_self)).1, h3, Dg.ok_step (d := d) (k6 (b, d) (List.mem_cons_self)).2.2 hbd⟩
    · have hq2 := k6 q (List.mem_cons_of_mem _ hq)
      refine ⟨hq2.1, hq2.2.1.fx hf rfl rfl rfl rfl ⟨cs, T, _, hb1, ?_⟩ (fun c => hnd (List.mem_map.2 ⟨q, hq, c⟩)), hq2.2.2⟩
      rcases hT with rfl | rfl | rfl <;> decide
  · simp only [List.map_cons] at k7 ⊢
    exact k7
  · intro q hq
    rcases List.mem_cons.1 hq with rfl | hq
    · exact hown
    · exact h.owns q (List.mem_cons_of_mem _ hq)
end
end Go.Proofs.YtdbgfidnccpmdaaGreat

/-
  Hops: what is told of them; how they begin; on to what is not over.
-/
namespace Go.Proofs.YtdbgfidnccpmdaaGreat
open Go.RowKit Go.Maps TagPure
set_option linter.unusedVariables false

theorem hpover {w : World} {lo hb : Nat} {x : HP} {qs : List (Nat × Dg)} (h : HopsAt w lo hb x qs) : Calls Tryz.prog 147 #[.pointer (some ⟨hb, 0, none⟩)] w fun e w' => e = .returned (.bool ((x.left : Int) == 0)) ∧ w' = w := by
  obtain ⟨c1, -⟩ := h.c
  clear h
  go_enter Tryz.func147, Tryz.ntmps147
  go_wp2
  go_ret
  exact ⟨rfl, rfl⟩
theorem hpover_nil (w : World) : Calls Tryz.prog 147 #[.pointer none] w fun e w' => e = .returned (.bool true) ∧ w' = w := by
  go_enter Tryz.func147, Tryz.ntmps147
  go_wp2
  go_ret
  exact ⟨rfl, rfl⟩
theorem hpstep_nil (u : Value) (w : World) : Calls Tryz.prog 69 #[.pointer none, u] w fun e w' => e = .returned (.bool true) ∧ w' = w := by
  go_enter Tryz.func69, Tryz.ntmps69
  go_wp2_with (go_at_call 147; refine (hpover_nil _).mono ?_; intro e w2 hh; obtain ⟨hh1, hh2⟩ := hh; subst hh1; obtain rfl := hh2.symm)
  go_ret
  exact ⟨rfl, rfl⟩
theorem hpstep_over {w : World} {lo hb : Nat} {x : HP} {qs : List (Nat × Dg)} (h : HopsAt w lo hb x qs) (ho : x.left = 0) (u : Value) : Calls Tryz.prog 69 #[.pointer (some ⟨hb, 0, none⟩), u] w fun e w' => e = .returned (.bool true) ∧ w' = w := by
  have hv := hpover h
  rw [show ((x.left : Int) == 0) = true by rw [ho]; rfl] at hv
  clear h ho
  go_enter Tryz.func69, Tryz.ntmps69
  go_wp2_with (go_at_call 147; refine hv.mono ?_; intro e w2 hh; obtain ⟨hh1, hh2⟩ := hh; subst hh1; obtain rfl := hh2.symm)
  go_ret
  exact ⟨rfl, rfl⟩
theorem hpstep_no {w : World} {lo hb : Nat} {x : HP} {qs : List (Nat × Dg)} (h : HopsAt w lo hb x qs) (ho : x.left ≠ 0) : Calls Tryz.prog 69 #[.pointer (some ⟨hb, 0, none⟩), .pointer none] w fun e w' => e = .returned (.bool false) ∧ w' = w := by
  have hv := hpover h
  rw [show ((x.left : Int) == 0) = false from beq_eq_false_iff_ne.2 (by omega)] at hv
  clear h ho
  go_enter Tryz.func69, Tryz.ntmps69
  go_wp2_with (go_at_call 147; refine hv.mono ?_; intro e w2 hh; obtain ⟨hh1, hh2⟩ := hh; subst hh1; obtain rfl := hh2.symm)
  go_ret
  exact ⟨rfl, rfl⟩
set_option maxRecDepth 10000 in
/-- A copy of spots. -/
theorem sclone3 {w : World} {base n : Nat} {v : Value} {xs : List Value} (h : w.ownsRow base 43 3 v n xs) (hl : n ≤ 100000) (h1 : ∀ u ∈ xs, u.oneCell' = true) : Calls Tryz.prog 142 #[v] w fun e w' => ∃ v', e = .returned v' ∧ w'.ownsRow w.heap.size 43 3 v' n xs ∧ Below w.heap.size w w' := by
  obtain ⟨i0, hi0, hz0, hz1, hz2⟩ := info_parts info_spot3
  have HI := Lib.hid hi0; have HZ0 := Lib.hid hz0; have HZ1 := Lib.hid hz1; have HZ2 := Lib.hid hz2; have H1 := Lib.hid h1
  clear hi0 hz0 hz1 hz2 h1
  obtain ⟨hx, ⟨rfl, h0⟩ | ⟨g, cap, cur, rfl, hb, hg, hn, hm, hs, ht⟩⟩ := h
  · subst h0
    have : xs = [] := List.length_eq_zero_iff.1 (by omega)
    subst this
    clear hx hl
    have q22 : ∀ (w : World) (a : Option Addr) (n c n' c' : Nat), (binOp .eql 145 (.slice a n c) (.slice none n' c')).run Tryz.prog w = .ok (.bool a.isNone) w := fun w a n c n' c' => Go.Lib.run_eql_slice_nil w _ _ a n c n' c' Tryz.underlying145
    go_enter Tryz.func142, Tryz.ntmps142
    go_wp2
    go_ret
    exact ⟨_, rfl, World.ownsRow_nil _ _ _ _, Below.refl _ _⟩
  · have hcs : ∀ j u, xs[j]? = some u → w.cell? ⟨g, j, none⟩ = some u := fun j u hj => by
      have hj2 : j < xs.length := (List.getElem?_eq_some_iff.1 hj).1
      rw [hx] at hj2
      rw [← ht, List.getElem?_take, if_pos hj2] at hj
      rw [hcell hg, ← hj]; simp
    have hglt := (Array.getElem?_eq_some_iff.1 hg).1
    have HC := Lib.hid hcs; have HL := Lib.hid hl; have HG := Lib.hid hglt; have HX := Lib.hid hx
    clear hx hb hg hn hs ht hcs hl hm hglt
    have q22 : ∀ (w : World) (a : Option Addr) (n c n' c' : Nat), (binOp .eql 145 (.slice a n c) (.slice none n' c')).run Tryz.prog w = .ok (.bool a.isNone) w := fun w a n c n' c' => Go.Lib.run_eql_slice_nil w _ _ a n c n' c' Tryz.underlying145
    go_enter Tryz.func142, Tryz.ntmps142
    go_wp2_with (at_builtin; refine wpList_append_own _ rfl _ _ 145 rfl w.heap.size 43 i0 (.agg #[.int .i64 0, .int .i64 0, .int .i64 0]) 3 24 Tryz.underlying145 HI.out HZ0.out HZ1.out HZ2.out rfl (by decide) _ _ _ rfl (World.ownsRow_made w #[] 0 (Nat.le_refl _) (Nat.zero_le _) (by simp)) ⟨g, 0, none⟩ n cap xs rfl ?c1 ?c2 ?c3 ?c4 ?c5 ?c6 ?_)
    case c1 => exact HX.out
    case c2 =>
      intro j u hj
      have ea : (⟨g, 0, none⟩ : Addr).add j = ⟨g, 0 + j, none⟩ := by simp [Addr.add]; omega
      rw [ea]
      rw [World.cell?_alloc_past _ _ _ (show g < _ from HG.out), Nat.zero_add]
      exact HC.out j u hj
    case c3 => exact H1.out
    case c4 => have := HL.out; unfold maxLen; omega
    case c5 => have := HL.out; omega
    case c6 => simp
    intro v' w2 hown hgr _
    have hb1 := below_alloc w (.cells #[] 43)
    have hB : Below w.heap.size w w2 := ((Below.refl w.heap.size w).trans hb1).grown hgr (by simp) (fun k hk => by simp [Value.ownBlock] at hk; omega)
    have HO := Lib.hid hown; have HB := Lib.hid hB
    clear hown hgr hb1 hB
    go_wp2
    go_ret
    have := HO.out
    first
      | exact ⟨_, rfl, this, HB.out⟩
      | (simp only [Nat.zero_add, List.nil_append] at this; exact ⟨_, rfl, this, HB.out⟩)
def hpnew (l : List (Int × Int × Int)) : HP := ⟨l, l.length - 1, 0, false, []⟩
theorem newhops {w : World} {base : Nat} {v : Value} {l : List (Int × Int × Int)} (h : w.ownsRow base 43 3 v l.length (flat3 l)) (hl : l.length ≤ 100000) : Calls Tryz.prog 67 #[v] w fun e w' => ∃ hb, e = .returned (.pointer (some ⟨hb, 0, none⟩)) ∧ HopsAt w' w.heap.size hb (hpnew l) [] ∧ Below w.heap.size w w' := by
  have hc := sclone3 h hl (flat3_one l)
  obtain ⟨a, c, rfl⟩ := own_sl2 h
  have hmx : max ((l.length : Int) - 1) 0 = ((l.length - 1 : Nat) : Int) := by omega
  have hmy : (if (l.length : Int) - 1 < 0 then (0 : Int) else (l.length : Int) - 1) = ((l.length - 1 : Nat) : Int) := by split <;> omega
  have hw : wrap64 ((l.length : Int) - 1) = (l.length : Int) - 1 := IntWalk.wrap64_in _ (by omega)
  have HL := Lib.hid hl; have HMX := Lib.hid hmx; have HMY := Lib.hid hmy
  clear h hl hmx hmy
  go_enter Tryz.func67, Tryz.ntmps67
  go_wp2_with (go_at_call 142; refine hc.mono ?_; intro e w2 hh; obtain ⟨v2, hh1, o2, b2⟩ := hh; subst hh1; obtain ⟨a2, c2, hv2⟩ := own_sl2 o2; subst hv2; have O2 := Lib.hid o2; have B2 := Lib.hid b2; clear o2 b2 hc)
  simp only [HMX.out]
  go_ret
  have b3 := below_alloc w2 (.cells ((hpnew l).cells (.slice a2 l.length c2) (.slice none 0 0)) 280)
  have z3 := heap_alloc_new w2 (.cells ((hpnew l).cells (.slice a2 l.length c2) (.slice none 0 0)) 280)
  refine ⟨w2.heap.size, rfl, ⟨B2.out.size, rfl, HL.out, ?_, ⟨_, _, z3, own_fr O2.out (below_fr b3 (fun _ => false) false) rfl, none, 0, rfl, Nat.le_refl _, Nat.zero_le _, .inl rfl⟩, (fun q hq => by cases hq), List.nodup_nil⟩, B2.out.trans (b3.mono B2.out.size)⟩
  show l.length - 1 < l.length ∨ l.length - 1 = 0
  omega
def dolen (hb : Nat) (w : World) : Nat := match w.cell? ⟨hb, 4, none⟩ with
  | some (.slice _ n _) => n
  | _ => 0
set_option maxRecDepth 10000 in
set_option maxHeartbeats 2000000 in
/-- On to what is not over. -/
theorem hpon {w0 w W : World} {B : WB} {V : WV} {s : CS} {S : List Nat} {hb : Nat} {x : HP} {qs : List (Nat × Dg)} (h : HMB w0 w W B V s S hb x qs) (hl : x.left ≠ 0) : Calls Tryz.prog 150 #[.pointer (some ⟨hb, 0, none⟩)] W fun e w' => e = .returned (.tuple #[]) ∧ ∃ qs', HMB w0 w w' B V s S hb x.on qs' := by
  have hx := h.hp.eq
  have hlt := h.hp.lt
  have hfew := h.hp.few
  have hx0 : HMB w0 w W B V s S hb { x with l := qs.map Prod.snd } qs := by rw [← hx]; exact h
  have hd0 : (qs.map Prod.snd).dropWhile Dg.over = x.l.dropWhile Dg.over := by rw [hx]
  have hw1 : wrap64 ((x.left : Int) - 1) = ((x.left - 1 : Nat) : Int) := by rw [IntWalk.wrap64_in _ (by omega)]; omega
  have HX0 := Lib.hid (And.intro hx0 hd0); have HLT := Lib.hid hlt
  clear h hx hlt hfew hx0 hd0 hl
  go_enter Tryz.func150, Tryz.ntmps150
  go_step3
  apply wp_seq
  go_step3
  change Code.wp _ _ _ _ _
  go_wp2
  go_loopw [7] (fun _ wr => ∃ rest, HMB w0 w wr B V s S hb { x with l := rest.map Prod.snd } rest ∧ (rest.map Prod.snd).dropWhile Dg.over = x.l.dropWhile Dg.over) (fun _ wr => dolen hb wr)
  case atStart => exact ⟨qs, HX0.out⟩
  case round =>
    clear HX0
    obtain ⟨rest, hm, hd⟩ := hrel
    have HM := Lib.hid hm; have HD := Lib.hid hd
    obtain ⟨vw, vd, g1, -, g3⟩ := hm.hp.ex
    have c1 : wr.cell? ⟨hb, 1, none⟩ = some (.int .i64 x.left) := hcell g1 1
    have c4 : wr.cell? ⟨hb, 4, none⟩ = some vd := hcell g1 4
    have c3 : wr.cell? ⟨hb, 3, none⟩ = some (.bool x.load) := hcell g1 3
    have ff := hm.hp.f
    clear hm hd g1
    rcases rest with _ | ⟨⟨b, d⟩, r⟩
    · obtain ⟨a, c, rfl⟩ := do_nil g3
      clear g3
      go_wp2
      rw [Exit.noGoto_normal]
      go_end0
      refine ⟨rfl, [], ?_⟩
      have h1 := HM.out.set (y := { x with l := [], left := x.left - 1 }) 1 (.int .i64 ((x.left - 1 : Nat) : Int)) rfl rfl (by have := HLT.out; show x.left - 1 < x.way.length ∨ x.left - 1 = 0; omega) (fun _ _ => rfl)
      have h2 := h1.set (y := { x with l := [], left := x.left - 1, load := false }) 3 (.bool false) rfl rfl h1.hp.lt (fun _ _ => rfl)
      have e : x.on = { x with l := [], left := x.left - 1, load := false } := by unfold HP.on; rw [← HD.out]; rfl
      rw [e]
      first | exact h2 | (rw [hw1]; exact h2)
    · obtain ⟨g, o, k, rfl, hc, hrk, hkm, hpop⟩ := do_pop g3
      have hdl : dolen hb wr = r.length + 1 := by unfold dolen; rw [c4]
      have hda := (HM.out.hp.dos (b, d) (List.mem_cons_self)).2.1
      have HPOP := Lib.hid hpop; have HDL := Lib.hid hdl; have HRK := Lib.hid hrk
      have hkm2 : (k : Int) + 1 ≤ 9223372036854775807 := by unfold maxLen at hkm; omega
      clear hkm
      have hz0 : (0 : Int) < (r.length : Int) + 1 := by omega
      clear g3 hpop hdl hrk
      obtain ⟨ov, hov⟩ : ∃ ov, ov = d.over := ⟨_, rfl⟩
      have hfin : ∀ (W2 : World), Below wr.heap.size wr W2 → d.over = false → ∃ qs', HMB w0 w W2 B V s S hb x.on qs' := fun W2 hb2 ho => by
        have e : x.on = { x with l := d :: r.map Prod.snd } := by
          unfold HP.on
          rw [← HD.out, List.map_cons, List.dropWhile_cons_of_neg (by rw [ho]; simp)]
        rw [e]
        exact ⟨(b, d) :: r, HM.out.below hb2⟩
      have HFIN := Lib.hid hfin
      have hrel2 : ∀ (W2 : World), Below wr.heap.size wr W2 → d.over = true → HMB w0 w (W2.setCell ⟨hb, 4, none⟩ (.slice (some ⟨g, if k = 0 then o else o + 1, none⟩) r.length k)) B V s S hb { x with l := r.map Prod.snd } r ∧ (r.map Prod.snd).dropWhile Dg.over = x.l.dropWhile Dg.over ∧ dolen hb (W2.setCell ⟨hb, 4, none⟩ (.slice (some ⟨g, if k = 0 then o else o + 1, none⟩) r.length k)) < dolen hb wr := fun W2 hb2 ho => by
        have hm2 := HM.out.below hb2
        have hnd := hm2.hp.nd
        simp only [List.map_cons, List.nodup_cons] at hnd
        have h3 := hm2.setl (HPOP.out.of (fun gg cur hg => (hb2.block _ (Array.getElem?_eq_some_iff.1 hg).1).trans hg)) (fun q hq => hm2.hp.dos q (List.mem_cons_of_mem _ hq)) hnd.2 (fun q hq => hm2.owns q (List.mem_cons_of_mem _ hq))
        refine ⟨h3, ?_, ?_⟩
        · rw [← HD.out, List.map_cons, List.dropWhile_cons_of_pos ho]
        · obtain ⟨cs, bk⟩ := hm2.hp.blk
          obtain ⟨vw2, vd2, g12, -, -⟩ := hm2.hp.ex
          have := hcell (setCell_same g12 4 (.slice (some ⟨g, if k = 0 then o else o + 1, none⟩) r.length k)) 4
          have e2 : (W2.setCell ⟨hb, 4, none⟩ (.slice (some ⟨g, if k = 0 then o else o + 1, none⟩) r.length k)).cell? ⟨hb, 4, none⟩ = some (.slice (some ⟨g, if k = 0 then o else o + 1, none⟩) r.length k) := this
          have e3 : dolen hb (W2.setCell ⟨hb, 4, none⟩ (.slice (some ⟨g, if k = 0 then o else o + 1, none⟩) r.length k)) = r.length := by unfold dolen; rw [e2]
          rw [e3, HDL.out]; omega
      have HREL := Lib.hid hrel2
      have hal : ∀ (W2 : World), Below wr.heap.size wr W2 → W2.cell? ⟨hb, 4, none⟩ = some (.slice (some ⟨g, o, none⟩) (r.length + 1) (k + 1)) ∧ ∀ o, W2.frozen? ⟨hb, o, none⟩ = false := fun W2 hb2 => by
        have hm2 := HM.out.below hb2
        exact ⟨(hb2.cell (World.block_lt_of_cell? _ _ c4)).trans c4, hm2.hp.f⟩
      have HAL := Lib.hid hal
      clear hfin hrel2 hal
      cases d with
      | mark xs =>
        have ho2 := dgover_mark hda
        rw [← hov] at ho2
        have HOV := Lib.hid hov
        have hc2 : wr.cell? ⟨g, o, none⟩ = some (.iface 225 (.pointer (some ⟨b, 0, none⟩))) := hc
        clear hda hov hc HM HPOP HD
        go_upto_if 15 with (go_at_call 303; refine ho2.mono ?_; intro e w2 hh; obtain ⟨hh1, b2⟩ := hh; subst hh1; have B2 := Lib.hid b2; clear b2 ho2 c4 ff)
        obtain ⟨c4, ff⟩ := HAL.out _ B2.out
        cases ov
        · obtain ⟨n, hn⟩ : ∃ n, n = r.length + 1 := ⟨_, rfl⟩
          have hn0 : ((n : Int) == 0) = false := beq_eq_false_iff_ne.2 (by omega)
          have hn1 : (n == 0) = false := beq_eq_false_iff_ne.2 (by omega)
          rw [← hn] at c4
          clear hz0 hn hkm2 HREL HAL
          go_wp2
          rw [Exit.noGoto_normal]
          go_end0
          exact ⟨rfl, HFIN.out _ B2.out HOV.out.symm⟩
        · have hr := HREL.out _ B2.out HOV.out.symm
          have HR := Lib.hid hr
          clear hr HREL HFIN HAL hz0 HOV HRK HDL
          rcases Nat.eq_zero_or_pos k with hk0 | hk0
          · subst hk0
            go_wp2
            go_roundw
            case rel => exact ⟨r, HR.out.1, HR.out.2.1⟩
            case measure => exact HR.out.2.2
          · have hk1 : ¬ k = 0 := by omega
            rw [if_neg hk1] at HR
            clear hkm2
            go_wp2
            go_roundw
            case rel => exact ⟨r, HR.out.1, HR.out.2.1⟩
            case measure => exact HR.out.2.2
      | out σ =>
        have ho2 := dgover_out hda
        rw [← hov] at ho2
        have HOV := Lib.hid hov
        have hc2 : wr.cell? ⟨g, o, none⟩ = some (.iface 223 (.pointer (some ⟨b, 0, none⟩))) := hc
        clear hda hov hc HM HPOP HD
        go_upto_if 15 with (go_at_call 297; refine ho2.mono ?_; intro e w2 hh; obtain ⟨hh1, b2⟩ := hh; subst hh1; have B2 := Lib.hid b2; clear b2 ho2 c4 ff)
        obtain ⟨c4, ff⟩ := HAL.out _ B2.out
        cases ov
        · obtain ⟨n, hn⟩ : ∃ n, n = r.length + 1 := ⟨_, rfl⟩
          have hn0 : ((n : Int) == 0) = false := beq_eq_false_iff_ne.2 (by omega)
          have hn1 : (n == 0) = false := beq_eq_false_iff_ne.2 (by omega)
          rw [← hn] at c4
          clear hz0 hn hkm2 HREL HAL
          go_wp2
          rw [Exit.noGoto_normal]
          go_end0
          exact ⟨rfl, HFIN.out _ B2.out HOV.out.symm⟩
        · have hr := HREL.out _ B2.out HOV.out.symm
          have HR := Lib.hid hr
          clear hr HREL HFIN HAL hz0 HOV HRK HDL
          rcases Nat.eq_zero_or_pos k with hk0 | hk0
          · subst hk0
            go_wp2
            go_roundw
            case rel => exact ⟨r, HR.out.1, HR.out.2.1⟩
            case measure => exact HR.out.2.2
          · have hk1 : ¬ k = 0 := by omega
            rw [if_neg hk1] at HR
            clear hkm2
            go_wp2
            go_roundw
            case rel => exact ⟨r, HR.out.1, HR.out.2.1⟩
            case measure => exact HR.out.2.2
      | put σ gg rr =>
        have ho2 := dgover_put hda
        rw [← hov] at ho2
        have HOV := Lib.hid hov
        have hc2 : wr.cell? ⟨g, o, none⟩ = some (.iface 219 (.pointer (some ⟨b, 0, none⟩))) := hc
        clear hda hov hc HM HPOP HD
        go_upto_if 15 with (go_at_call 287; refine ho2.mono ?_; intro e w2 hh; obtain ⟨hh1, b2⟩ := hh; subst hh1; have B2 := Lib.hid b2; clear b2 ho2 c4 ff)
        obtain ⟨c4, ff⟩ := HAL.out _ B2.out
        cases ov
        · obtain ⟨n, hn⟩ : ∃ n, n = r.length + 1 := ⟨_, rfl⟩
          have hn0 : ((n : Int) == 0) = false := beq_eq_false_iff_ne.2 (by omega)
          have hn1 : (n == 0) = false := beq_eq_false_iff_ne.2 (by omega)
          rw [← hn] at c4
          clear hz0 hn hkm2 HREL HAL
          go_wp2
          rw [Exit.noGoto_normal]
          go_end0
          exact ⟨rfl, HFIN.out _ B2.out HOV.out.symm⟩
        · have hr := HREL.out _ B2.out HOV.out.symm
          have HR := Lib.hid hr
          clear hr HREL HFIN HAL hz0 HOV HRK HDL
          rcases Nat.eq_zero_or_pos k with hk0 | hk0
          · subst hk0
            go_wp2
            go_roundw
            case rel => exact ⟨r, HR.out.1, HR.out.2.1⟩
            case measure => exact HR.out.2.2
          · have hk1 : ¬ k = 0 := by omega
            rw [if_neg hk1] at HR
            clear hkm2
            go_wp2
            go_roundw
            case rel => exact ⟨r, HR.out.1, HR.out.2.1⟩
            case measure => exact HR.out.2.2
end Go.Proofs.YtdbgfidnccpmdaaGreat

/-
  Hops: a row of what a hop does with an item.
-/
namespace Go.Proofs.YtdbgfidnccpmdaaGreat
open Go.RowKit Go.Maps TagPure
set_option linter.unusedVariables false

theorem vof_in64h {l : List (Int × Int)} : ∀ x ∈ vof l, 64 ≤ x ∧ x < 128 := by
  have key : ∀ (l : List (Int × Int)) (o : List Int), (∀ x ∈ o, 64 ≤ x ∧ x < 128) → ∀ x ∈ l.foldl vstep o, 64 ≤ x ∧ x < 128 := by
    intro l
    induction l with
    | nil => intro o h; exact h
    | cons p l ih =>
      intro o h
      refine ih _ fun x hx => ?_
      unfold vstep at hx
      split at hx
      · exact h x hx
      · split at hx
        · exact h x hx
        · rename_i hz _
          rcases List.mem_append.1 hx with hx | hx
          · exact h x hx
          · simp only [List.mem_singleton] at hx
            subst hx
            unfold ver at hz ⊢
            unfold stripe at hz ⊢
            split
            · omega
            · rename_i hh; rw [if_neg hh] at hz; exact absurd rfl hz
  exact key l [] (by simp)
theorem vof_wf {l : List (Int × Int)} : ∀ a ∈ vof l, (Lit.int .u64 a).wf = true := fun a ha => by
  have := vof_in64h a ha
  have h : 0 ≤ a ∧ a ≤ 18446744073709551615 := by omega
  simpa [Lit.wf, IntKind.min, IntKind.max, IntKind.bits, IntKind.signed] using h
theorem newput_zero (b u s g r : Int) (h : g < 1 ∨ 255 < g ∨ r < 1) (w : World) : Calls Tryz.prog 103 #[.agg #[.int .i64 b, .int .i64 u, .int .i64 s], .int .i64 g, .int .i64 r] w
    fun e w' => ∃ q, e = .returned (.pointer (some ⟨q, 0, none⟩)) ∧ SlotAt w' q 317 ⟨0, 0, 0, 0, 0⟩ [.int .i64 0, .int .i64 0] ∧ w.heap.size ≤ q ∧ Below w.heap.size w w' := by
  have hb := below_alloc w (.cells #[.int .i64 b, .int .i64 u, .int .i64 s] 43)
  have e : (w.alloc (.cells #[.int .i64 b, .int .i64 u, .int .i64 s] 43)).heap.size = w.heap.size + 1 := by simp
  have fin : SlotAt ((w.alloc (.cells #[.int .i64 b, .int .i64 u, .int .i64 s] 43)).alloc (.cells #[.int .u64 0, .int .u64 0, .int .i64 0, .int .u64 0, .int .i64 0, .int .i64 0, .int .i64 0] 317)) (w.heap.size + 1) 317 ⟨0, 0, 0, 0, 0⟩ [.int .i64 0, .int .i64 0] ∧ Below w.heap.size w ((w.alloc (.cells #[.int .i64 b, .int .i64 u, .int .i64 s] 43)).alloc (.cells #[.int .u64 0, .int .u64 0, .int .i64 0, .int .u64 0, .int .i64 0, .int .i64 0, .int .i64 0] 317)) :=
    ⟨heap_alloc_at _ _ e.symm, hb.trans ((below_alloc _ _).mono hb.size)⟩
  have F := Lib.hid fin
  clear fin e hb
  by_cases h1 : g < 1
  · have d1 : decide (g < 1) = true := decide_eq_true h1
    clear h h1
    go_enter Tryz.func103, Tryz.ntmps103
    go_wp2
    go_ret
    exact ⟨w.heap.size + 1, rfl, F.out.1, by omega, F.out.2⟩
  have d1 : decide (g < 1) = false := decide_eq_false h1
  by_cases h2 : 255 < g
  · have d2 : decide (255 < g) = true := decide_eq_true h2
    clear h h1 h2
    go_enter Tryz.func103, Tryz.ntmps103
    go_wp2
    go_ret
    exact ⟨w.heap.size + 1, rfl, F.out.1, by omega, F.out.2⟩
  have d2 : decide (255 < g) = false := decide_eq_false h2
  have d3 : decide (r < 1) = true := decide_eq_true ((h.resolve_left h1).resolve_left h2)
  clear h h1 h2
  go_enter Tryz.func103, Tryz.ntmps103
  go_wp2
  go_ret
  exact ⟨w.heap.size + 1, rfl, F.out.1, by omega, F.out.2⟩
/-- A Put of what a slot's tag and its item are. -/
def hsput (p : Int × Int × Int) (g r : Int) : Dg := if g < 1 ∨ 255 < g ∨ r < 1 then .put ⟨0, 0, 0, 0, 0⟩ 0 0 else .put (sof p.1 p.2.1 p.2.2) g r
def HP.row (x : HP) (p q : Int × Int × Int) (ref : Int) : List Dg := [.mark (vof [(p.1, p.2.1), (q.1, q.2.1)]), .out (sof p.1 p.2.1 p.2.2), hsput q x.tag ref, .mark (vof [(p.1, p.2.1), (q.1, q.2.1)])]
theorem sof_ok (b u s : Int) : SOk (sof b u s) := by
  unfold sof
  split
  · exact ⟨by decide, by decide, by decide, .inl rfl⟩
  · exact ⟨tagsA_wf _ _, itemA_wf _ _ _, (by show (0 : Int) ≤ 0 ∧ (0 : Int) < _; decide), .inl rfl⟩
theorem hsput_ok (p : Int × Int × Int) (g r : Int) (hr : r < 9223372036854775808) : (hsput p g r).ok := by
  unfold hsput
  split
  · exact ⟨⟨by decide, by decide, by decide, .inl rfl⟩, by decide, by decide⟩
  · exact ⟨sof_ok _ _ _, by omega, hr⟩
theorem newput_s (p : Int × Int × Int) (g r : Int) (hs : (Lit.int .i64 p.2.2).wf = true) (w : World) : Calls Tryz.prog 103 #[.agg #[.int .i64 p.1, .int .i64 p.2.1, .int .i64 p.2.2], .int .i64 g, .int .i64 r] w
    fun e w' => ∃ q, e = .returned (.pointer (some ⟨q, 0, none⟩)) ∧ DgAt w' q (hsput p g r) ∧ w.heap.size ≤ q ∧ Below w.heap.size w w' := by
  by_cases h : g < 1 ∨ 255 < g ∨ r < 1
  · have e : hsput p g r = .put ⟨0, 0, 0, 0, 0⟩ 0 0 := by unfold hsput; rw [if_pos h]
    rw [e]
    exact newput_zero _ _ _ g r h w
  · have e : hsput p g r = .put (sof p.1 p.2.1 p.2.2) g r := by unfold hsput; rw [if_neg h]
    rw [e]
    exact newput_in _ _ _ g r hs (by omega) (by omega) w
abbrev TwoS (pa pb : Nat) (p q : Int × Int × Int) (W : World) : Prop := (W.cell? ⟨pa, 0, none⟩ = some (.int .i64 p.1) ∧ W.cell? ⟨pa, 1, none⟩ = some (.int .i64 p.2.1) ∧ W.cell? ⟨pa, 2, none⟩ = some (.int .i64 p.2.2)) ∧ W.cell? ⟨pb, 0, none⟩ = some (.int .i64 q.1) ∧ W.cell? ⟨pb, 1, none⟩ = some (.int .i64 q.2.1) ∧ W.cell? ⟨pb, 2, none⟩ = some (.int .i64 q.2.2)
theorem hpmark {pa pb : Nat} {p q : Int × Int × Int} {W : World} (h : TwoS pa pb p q W) : Calls Tryz.prog 212 #[.pointer (some ⟨pa, 0, none⟩), .pointer (some ⟨pb, 0, none⟩)] W fun e w' => ∃ mb, e = .returned (.iface 225 (.pointer (some ⟨mb, 0, none⟩))) ∧ DgAt w' mb (.mark (vof [(p.1, p.2.1), (q.1, q.2.1)])) ∧ W.heap.size ≤ mb ∧ Below W.heap.size W w' := by
  obtain ⟨⟨a0, a1, -⟩, b0, b1, -⟩ := h
  have hb := below_alloc W (.cells #[.int .i64 p.1, .int .i64 p.2.1, .int .i64 q.1, .int .i64 q.2.1] 41)
  have hz := heap_alloc_new W (.cells #[.int .i64 p.1, .int .i64 p.2.1, .int .i64 q.1, .int .i64 q.2.1] 41)
  have hm := newmark_any [(p.1, p.2.1), (q.1, q.2.1)] (some ⟨W.heap.size, 0, none⟩) 2 _ (plc_blk2 hz) (by simp)
  have HB := Lib.hid hb
  clear hz hb
  go_enter Tryz.func212, Tryz.ntmps212
  go_wp2_with (go_at_call 105; refine hm.mono ?_; intro e w2 hh; obtain ⟨mb, hh1, m2, l2, b2⟩ := hh; subst hh1; have M2 := Lib.hid m2; have L2 := Lib.hid l2; have B2 := Lib.hid b2; clear m2 l2 b2 hm)
  go_ret
  exact ⟨mb, rfl, M2.out, Nat.le_trans HB.out.size L2.out, HB.out.trans (B2.out.mono HB.out.size)⟩
theorem own_some {w : World} {base e size n : Nat} {v : Value} {xs : List Value} (h : w.ownsRow base e size v n xs) (hn : 0 < n) : ∃ g cap, v = .slice (some ⟨g, 0, none⟩) n cap ∧ n ≤ cap := by
  obtain ⟨-, ⟨-, h0⟩ | ⟨g, cap, cur, rfl, -, -, h3, -⟩⟩ := h
  · omega
  · exact ⟨g, cap, rfl, h3⟩
theorem hsput_ty (p : Int × Int × Int) (g r : Int) : (hsput p g r).ty = 219 := by unfold hsput; split <;> rfl
abbrev TRow (hb pa pb : Nat) (p q : Int × Int × Int) (tg : Int) (W : World) : Prop := TwoS pa pb p q W ∧ W.cell? ⟨hb, 2, none⟩ = some (.int .i64 tg)
/-- Hops, and the two spots of a hop. -/
structure HRow (w0 w W : World) (B : WB) (V : WV) (s : CS) (S : List Nat) (hb pa pb : Nat) (x : HP) (p q : Int × Int × Int) : Prop where
  m : HMB w0 w W B V s S hb x []
  a : W.heap[pa]? = some (.cells #[.int .i64 p.1, .int .i64 p.2.1, .int .i64 p.2.2] 43 (0, 0))
  b : W.heap[pb]? = some (.cells #[.int .i64 q.1, .int .i64 q.2.1, .int .i64 q.2.2] 43 (0, 0))
section
variable {w0 w W W' : World} {B : WB} {V : WV} {s : CS} {S : List Nat} {hb pa pb : Nat} {x : HP} {p q : Int × Int × Int}
theorem HRow.below (h : HRow w0 w W B V s S hb pa pb x p q) (k : Below W.heap.size W W') : HRow w0 w W' B V s S hb pa pb x p q := ⟨h.m.below k, (k.block _ (Array.getElem?_eq_some_iff.1 h.a).1).trans h.a, (k.block _ (Array.getElem?_eq_some_iff.1 h.b).1).trans h.b⟩
theorem HRow.t (h : HRow w0 w W B V s S hb pa pb x p q) : TRow hb pa pb p q x.tag W := ⟨⟨⟨hcell h.a 0, hcell h.a 1, hcell h.a 2⟩, hcell h.b 0, hcell h.b 1, hcell h.b 2⟩, h.m.hp.c.2.1⟩
theorem HRow.t4 (h : HRow w0 w W B V s S hb pa pb x p q) (v : Value) : TRow hb pa pb p q x.tag (W.setCell ⟨hb, 4, none⟩ v) := by
  obtain ⟨vw, vd, g1, -, -⟩ := h.m.hp.ex
  have ne : ∀ {i : Nat} {cs : Array Value}, W.heap[i]? = some (.cells cs 43 (0, 0)) → i ≠ hb := fun hi c => by
    subst c
    rw [hi] at g1
    simp only [Option.some.injEq, Obj.cells.injEq] at g1
    exact absurd g1.2.1 (by decide)
  have ha := (Below.heap_setCell W ⟨hb, 4, none⟩ v pa (ne h.a)).trans h.a
  have hq := (Below.heap_setCell W ⟨hb, 4, none⟩ v pb (ne h.b)).trans h.b
  exact ⟨⟨⟨hcell ha 0, hcell ha 1, hcell ha 2⟩, hcell hq 0, hcell hq 1, hcell hq 2⟩, hcell (setCell_same g1 4 v) 2⟩
/-- What is to do is there: four at once. -/
theorem HRow.fin {ref : Int} {m1 o1 u1 m2 : Nat} (h : HRow w0 w W B V s S hb pa pb x p q) (hrf : ref < 9223372036854775808) (hs : w.heap.size ≤ m1) (hs0 : w0.heap.size ≤ w.heap.size) (n1 : m1 < o1) (n2 : o1 < u1) (n3 : u1 < m2)
    (d1 : DgAt W m1 (.mark (vof [(p.1, p.2.1), (q.1, q.2.1)]))) (d2 : DgAt W o1 (.out (sof p.1 p.2.1 p.2.2))) (d3 : DgAt W u1 (hsput q x.tag ref)) (d4 : DgAt W m2 (.mark (vof [(p.1, p.2.1), (q.1, q.2.1)]))) :
    ∃ qs', HMB w0 w ((W.alloc (.cells #[.iface 225 (.pointer (some ⟨m1, 0, none⟩)), .iface 223 (.pointer (some ⟨o1, 0, none⟩)), .iface 219 (.pointer (some ⟨u1, 0, none⟩)), .iface 225 (.pointer (some ⟨m2, 0, none⟩))] 281)).setCell ⟨hb, 4, none⟩ (.slice (some ⟨W.heap.size, 0, none⟩) 4 4)) B V s S hb { x with l := x.row p q ref } qs' := by
  have hb1 := below_alloc W (.cells #[.iface 225 (.pointer (some ⟨m1, 0, none⟩)), .iface 223 (.pointer (some ⟨o1, 0, none⟩)), .iface 219 (.pointer (some ⟨u1, 0, none⟩)), .iface 225 (.pointer (some ⟨m2, 0, none⟩))] 281)
  have hz := heap_alloc_new W (.cells #[.iface 225 (.pointer (some ⟨m1, 0, none⟩)), .iface 223 (.pointer (some ⟨o1, 0, none⟩)), .iface 219 (.pointer (some ⟨u1, 0, none⟩)), .iface 225 (.pointer (some ⟨m2, 0, none⟩))] 281)
  have hm := (h.below hb1).m
  refine ⟨[(m1, .mark (vof [(p.1, p.2.1), (q.1, q.2.1)])), (o1, .out (sof p.1 p.2.1 p.2.2)), (u1, hsput q x.tag ref), (m2, .mark (vof [(p.1, p.2.1), (q.1, q.2.1)]))], hm.setl (v := .slice (some ⟨W.heap.size, 0, none⟩) 4 4) (qs' := [(m1, .mark (vof [(p.1, p.2.1), (q.1, q.2.1)])), (o1, .out (sof p.1 p.2.1 p.2.2)), (u1, hsput q x.tag ref), (m2, .mark (vof [(p.1, p.2.1), (q.1, q.2.1)]))]) ?_ ?_ ?_ ?_⟩
  · refine ⟨_, 4, rfl, Nat.le_refl _, by unfold maxLen; decide, .inr ⟨W.heap.size, 0, _, rfl, hz, fun i hi => ?_⟩⟩
    have hi4 : i < 4 := hi
    rcases (show i = 0 ∨ i = 1 ∨ i = 2 ∨ i = 3 by omega) with rfl | rfl | rfl | rfl
    · rfl
    · rfl
    · show _ = some (Value.iface (hsput q x.tag ref).ty (.pointer (some ⟨u1, 0, none⟩)))
      rw [hsput_ty]; rfl
    · rfl
  · intro y hy
    simp only [List.mem_cons, List.not_mem_nil, or_false] at hy
    rcases hy with rfl | rfl | rfl | rfl
    · exact ⟨by show _ ≤ m1; omega, d1.below hb1, vof_wf⟩
    · exact ⟨by show _ ≤ o1; omega, d2.below hb1, sof_ok _ _ _⟩
    · exact ⟨by show _ ≤ u1; omega, d3.below hb1, hsput_ok _ _ _ hrf⟩
    · exact ⟨by show _ ≤ m2; omega, d4.below hb1, vof_wf⟩
  · show [m1, o1, u1, m2].Nodup
    simp only [List.nodup_cons, List.mem_cons, List.not_mem_nil, or_false, not_false_eq_true, List.nodup_nil, and_true]
    omega
  · intro y hy
    simp only [List.mem_cons, List.not_mem_nil, or_false] at hy
    rcases hy with rfl | rfl | rfl | rfl
    · exact .inr (by show _ ≤ m1; omega)
    · exact .inr (by show _ ≤ o1; omega)
    · exact .inr (by show _ ≤ u1; omega)
    · exact .inr (by show _ ≤ m2; omega)
end
set_option maxRecDepth 10000 in
set_option maxHeartbeats 2000000 in
theorem hprow {w0 w W : World} {B : WB} {V : WV} {s : CS} {S : List Nat} {hb : Nat} {x : HP} {p q : Int × Int × Int} (h : HMB w0 w W B V s S hb x []) (k : Nat) (hl : x.left = k + 1) (hp : x.way[k]? = some p) (hq : x.way[x.left]? = some q) (hps : (Lit.int .i64 p.2.2).wf = true) (hqs : (Lit.int .i64 q.2.2).wf = true) (ref : Int) (hrf : ref < 9223372036854775808) (hs0 : w0.heap.size ≤ w.heap.size) :
    Calls Tryz.prog 149 #[.pointer (some ⟨hb, 0, none⟩), .int .i64 ref] W fun e w' => e = .returned (.tuple #[]) ∧ ∃ qs', HMB w0 w w' B V s S hb { x with l := x.row p q ref } qs' := by
  have hmf : ∀ (fn : Fn) (first cap : Array Value) (w : World), (Instr.makeFunc fn first cap).run Tryz.prog w = .ok (.func fn first cap) w := fun _ _ _ _ => rfl
  have hfew := h.hp.few
  have hlt := h.hp.lt
  obtain ⟨vw, vd, g1, g2, g3⟩ := h.hp.ex
  have c0 : W.cell? ⟨hb, 0, none⟩ = some vw := hcell g1 0
  have c1 : W.cell? ⟨hb, 1, none⟩ = some (.int .i64 x.left) := hcell g1 1
  obtain ⟨g, cap, rfl, hnc⟩ := own_some g2 (by omega)
  obtain ⟨p0, p1, p2, -⟩ := own_cell3 g2 k p hp
  obtain ⟨q0, q1, q2, -⟩ := own_cell3 g2 x.left q hq
  have hw1 : wrap64 ((x.left : Int) - 1) = (k : Int) := by rw [IntWalk.wrap64_in _ (by omega)]; omega
  have hk1 : (k : Int) < x.way.length := by omega
  have hk2 : (x.left : Int) < x.way.length := by omega
  have hk3 : k < x.way.length := by omega
  have hk4 : x.left < x.way.length := by omega
  have al : ∀ (ob : Obj) {q j : Nat} {u : Value} {w : World}, w.cell? ⟨q, j, none⟩ = some u → (w.alloc ob).cell? ⟨q, j, none⟩ = some u := fun ob q j u w hu => by rw [World.cell?_alloc_past _ _ _ (World.block_lt_of_cell? _ _ hu)]; exact hu
  have c0' := fun ob => al ob c0; have c0'' := fun ob ob2 => al ob2 (al ob c0)
  have c1' := fun ob => al ob c1; have c1'' := fun ob ob2 => al ob2 (al ob c1)
  have p0' := fun ob => al ob p0; have p0'' := fun ob ob2 => al ob2 (al ob p0)
  have p1' := fun ob => al ob p1; have p1'' := fun ob ob2 => al ob2 (al ob p1)
  have p2' := fun ob => al ob p2; have p2'' := fun ob ob2 => al ob2 (al ob p2)
  have q0' := fun ob => al ob q0; have q0'' := fun ob ob2 => al ob2 (al ob q0)
  have q1' := fun ob => al ob q1; have q1'' := fun ob ob2 => al ob2 (al ob q1)
  have q2' := fun ob => al ob q2; have q2'' := fun ob ob2 => al ob2 (al ob q2)
  have H := Lib.hid h; have HRF := Lib.hid hrf; have HS0 := Lib.hid hs0
  clear h hl hp hq hrf hs0 hfew hlt g1 g2 g3 hnc al
  go_enter Tryz.func149, Tryz.ntmps149
  go_upto_region 0 with (fail)
  go_cut [4, 5] (fun v4 v5 wx => ∃ pa pb, v4 = .pointer (some ⟨pa, 0, none⟩) ∧ v5 = .pointer (some ⟨pb, 0, none⟩) ∧ HMB w0 w wx B V s S hb x [] ∧ wx.heap[pa]? = some (.cells #[.int .i64 p.1, .int .i64 p.2.1, .int .i64 p.2.2] 43 (0, 0)) ∧ wx.heap[pb]? = some (.cells #[.int .i64 q.1, .int .i64 q.2.1, .int .i64 q.2.2] 43 (0, 0)))
  case first =>
    have key : ∀ (p q : Int × Int × Int), HMB w0 w ((W.alloc (.cells #[.int .i64 p.1, .int .i64 p.2.1, .int .i64 p.2.2] 43)).alloc (.cells #[.int .i64 q.1, .int .i64 q.2.1, .int .i64 q.2.2] 43)).drew B V s S hb x [] ∧ ((W.alloc (.cells #[.int .i64 p.1, .int .i64 p.2.1, .int .i64 p.2.2] 43)).alloc (.cells #[.int .i64 q.1, .int .i64 q.2.1, .int .i64 q.2.2] 43)).drew.heap[W.heap.size]? = some (.cells #[.int .i64 p.1, .int .i64 p.2.1, .int .i64 p.2.2] 43 (0, 0)) ∧ ((W.alloc (.cells #[.int .i64 p.1, .int .i64 p.2.1, .int .i64 p.2.2] 43)).alloc (.cells #[.int .i64 q.1, .int .i64 q.2.1, .int .i64 q.2.2] 43)).drew.heap[W.heap.size + 1]? = some (.cells #[.int .i64 q.1, .int .i64 q.2.1, .int .i64 q.2.2] 43 (0, 0)) := fun p q =>
      have b1 := below_alloc W (.cells #[.int .i64 p.1, .int .i64 p.2.1, .int .i64 p.2.2] 43)
      have b2 := below_alloc (W.alloc (.cells #[.int .i64 p.1, .int .i64 p.2.1, .int .i64 p.2.2] 43)) (.cells #[.int .i64 q.1, .int .i64 q.2.1, .int .i64 q.2.2] 43)
      ⟨H.out.below (b1.trans (b2.mono b1.size)).drew, heap_alloc_old (heap_alloc_new W _), heap_alloc_at _ _ (by simp)⟩
    have K1 := Lib.hid (key p q); have K2 := Lib.hid (key q p)
    clear key H
    go_region
    all_goals
      try go_wp2_with (fail)
      go_meet
      case rel =>
        first
          | exact ⟨_, _, rfl, rfl, K1.out.1, K1.out.2.1, K1.out.2.2⟩
          | exact ⟨_, _, rfl, rfl, K2.out.1, K2.out.2.2, K2.out.2.1⟩
  case rest =>
    obtain ⟨pa, pb, rfl, rfl, h1, ha, hbq⟩ := hcut
    have h0 := HS0.out
    have hsz := h1.fs.size
    have hb0 : Below wc.heap.size wc wc.drew := (Below.refl _ _).drew
    have R2 := Lib.hid ((HRow.mk h1 ha hbq).below hb0)
    have L2 := Lib.hid (show w.heap.size ≤ wc.drew.heap.size from hsz)
    have s2 := R2.out.t
    have k2 := hpmark s2.1
    clear h1 ha hbq hb0 hsz h0
    go_upto_region 2 with (fail)
    go_region_held2 (fun W => TRow hb pa pb p q x.tag W) (first | assumption | exact s7 _ | exact s8 _ _) (first
      | (go_at_call 212; refine k2.mono ?_; intro e w3 hh; obtain ⟨m1, hh1, d3, l3, b3⟩ := hh; subst hh1; have R3 := Lib.hid (R2.out.below b3); have D3 := Lib.hid d3; have L3 := Lib.hid (Nat.le_trans L2.out l3); have s3 : TRow hb pa pb p q x.tag w3 := R3.out.t; have k3 := newout_any p.1 p.2.1 p.2.2 hps w3; clear d3 l3 b3 s2 k2 R2 L2)
      | (go_at_call 104; refine k3.mono ?_; intro e w4 hh; obtain ⟨o1, hh1, d4, l4, b4⟩ := hh; subst hh1; have R4 := Lib.hid (R3.out.below b4); have D4 := Lib.hid (And.intro (D3.out.below b4) (And.intro (show DgAt w4 o1 (.out (sof p.1 p.2.1 p.2.2)) from d4) (show m1 < o1 from Nat.lt_of_lt_of_le D3.out.lt l4))); have s4 : TRow hb pa pb p q x.tag w4 := R4.out.t; have k4 := newput_s q x.tag ref hqs w4; clear d4 l4 b4 s3 k3 R3 D3)
      | (go_at_call 103; refine k4.mono ?_; intro e w5 hh; obtain ⟨u1, hh1, d5, l5, b5⟩ := hh; subst hh1; have R5 := Lib.hid (R4.out.below b5); have D5 := Lib.hid (And.intro (D4.out.1.below b5) (And.intro (D4.out.2.1.below b5) (And.intro d5 (And.intro D4.out.2.2 (show o1 < u1 from Nat.lt_of_lt_of_le D4.out.2.1.lt l5))))); have s5 : TRow hb pa pb p q x.tag w5 := R5.out.t; have k5 := hpmark s5.1; clear d5 l5 b5 s4 k4 R4 D4)
      | (go_at_call 212; refine k5.mono ?_; intro e w6 hh; obtain ⟨m2, hh1, d6, l6, b6⟩ := hh; subst hh1; have R6 := Lib.hid (R5.out.below b6); have F6 := Lib.hid (R6.out.fin HRF.out L3.out HS0.out D5.out.2.2.2.1 D5.out.2.2.2.2 (Nat.lt_of_lt_of_le D5.out.2.2.1.lt l6) (D5.out.1.below b6) (D5.out.2.1.below b6) (D5.out.2.2.1.below b6) d6); have s6 : TRow hb pa pb p q x.tag w6 := R6.out.t; have s7 : ∀ ob, TRow hb pa pb p q x.tag (w6.alloc ob) := fun ob => (R6.out.below (below_alloc w6 ob)).t; have s8 : ∀ ob v, TRow hb pa pb p q x.tag ((w6.alloc ob).setCell ⟨hb, 4, none⟩ v) := fun ob v => (R6.out.below (below_alloc w6 ob)).t4 v; obtain ⟨vw6, vd6, g6, -, -⟩ := R6.out.m.hp.ex; have f6 : ∀ ob, (w6.alloc ob).frozen? ⟨hb, 4, none⟩ = false := fun ob => (R6.out.below (below_alloc w6 ob)).m.hp.f 4; have c6 : ∀ ob, (w6.alloc ob).cell? ⟨hb, 4, none⟩ = some vd6 := fun ob => ((below_alloc w6 ob).cell (show hb < w6.heap.size from R6.out.m.hp.ltb)).trans (hcell g6 4); clear d6 l6 b6 s5 k5 R5 D5 g6))
    go_wp2_with (fail)
    go_end0
    exact ⟨rfl, F6.out⟩
end Go.Proofs.YtdbgfidnccpmdaaGreat

/-
  Hops: a step.
-/
namespace Go.Proofs.YtdbgfidnccpmdaaGreat
open Go.RowKit Go.Maps TagPure
set_option linter.unusedVariables false

theorem wrap64_lt (v : Int) : wrap64 v < 9223372036854775808 := by
  unfold wrap64; omega
/-- A step of Hops that are not over. -/
def HP.next (s : CS) (x : HP) : CS × HP := match x.l with
  | d :: r => ((d.step s).1, ({ x with l := (d.step s).2 :: r } : HP).on)
  | [] => match x.way[x.left - 1]?, x.way[x.left]? with
    | some p, some q =>
      if x.load = false then (s.acc 1 (tagsA p.1 p.2.1) (s.val (tagsA p.1 p.2.1)), { x with tag := tagOf (s.val (tagsA p.1 p.2.1)) p.2.2, load := true })
      else (s.acc 1 (itemA p.1 p.2.1 p.2.2) (s.val (itemA p.1 p.2.1 p.2.2)), ({ x with l := x.row p q (wrap64 (s.val (itemA p.1 p.2.1 p.2.2))) } : HP).on)
    | _, _ => (s, x)
/-- Hops, and a hop's first spot. -/
structure HSt (w0 w W : World) (B : WB) (V : WV) (s : CS) (S : List Nat) (hb pa : Nat) (x : HP) (qs : List (Nat × Dg)) (p : Int × Int × Int) : Prop where
  m : HMB w0 w W B V s S hb x qs
  a : W.heap[pa]? = some (.cells #[.int .i64 p.1, .int .i64 p.2.1, .int .i64 p.2.2] 43 (0, 0))
abbrev TSt (wb cb pa : Nat) (p : Int × Int × Int) (W : World) : Prop := W.cell? ⟨wb, 0, none⟩ = some (.pointer (some ⟨cb, 0, none⟩)) ∧ W.cell? ⟨pa, 0, none⟩ = some (.int .i64 p.1) ∧ W.cell? ⟨pa, 1, none⟩ = some (.int .i64 p.2.1) ∧ W.cell? ⟨pa, 2, none⟩ = some (.int .i64 p.2.2)
section
variable {w0 w W W' : World} {B : WB} {V : WV} {s s' : CS} {S : List Nat} {hb pa : Nat} {x : HP} {qs : List (Nat × Dg)} {p : Int × Int × Int}
theorem HSt.below (h : HSt w0 w W B V s S hb pa x qs p) (k : Below W.heap.size W W') : HSt w0 w W' B V s S hb pa x qs p := ⟨h.m.below k, (k.block _ (Array.getElem?_eq_some_iff.1 h.a).1).trans h.a⟩
theorem HSt.move (h : HSt w0 w W B V s S hb pa x qs p) (h2 : WS w0 W' B V s') (hf : Fr wTy true W W') : HSt w0 w W' B V s' S hb pa x qs p := ⟨h.m.move h2 hf, hf.cells _ _ _ _ h.a rfl⟩
theorem HSt.t (h : HSt w0 w W B V s S hb pa x qs p) : TSt B.wb B.cb pa p W := ⟨h.m.ws.c0, hcell h.a 0, hcell h.a 1, hcell h.a 2⟩
theorem HSt.t2 (h : HSt w0 w W B V s S hb pa x qs p) (v : Value) : TSt B.wb B.cb pa p (W.setCell ⟨hb, 2, none⟩ v) := by
  obtain ⟨cs, g1⟩ := h.m.hp.blk
  have hne : pa ≠ hb := fun c => by
    have := h.a
    rw [c, g1] at this
    simp only [Option.some.injEq, Obj.cells.injEq] at this
    exact absurd this.2.1 (by decide)
  have ha := (Below.heap_setCell W ⟨hb, 2, none⟩ v pa hne).trans h.a
  exact ⟨(set_take h.m.ws g1 rfl h.m.hp.low v).c0, hcell ha 0, hcell ha 1, hcell ha 2⟩
end
theorem HMB.self {w0 w W : World} {B : WB} {V : WV} {s : CS} {S : List Nat} {hb : Nat} {x : HP} (h : HMB w0 w W B V s S hb x []) : HMB w0 W W B V s [hb] hb x [] := ⟨h.ws, h.hp, FS.refl _ _, .inl (List.mem_singleton.2 rfl), fun q hq => by cases hq⟩
theorem HMB.re {w0 w W W' : World} {B : WB} {V : WV} {s s' : CS} {S : List Nat} {hb : Nat} {x y : HP} {qs qs' : List (Nat × Dg)} (h : HMB w0 w W B V s S hb x qs) (h2 : HMB w0 W W' B V s' [hb] hb y qs') : HMB w0 w W' B V s' S hb y qs' := by
  refine ⟨h2.ws, h2.hp, ⟨Nat.le_trans h.fs.size h2.fs.size, fun k cs T fr g1 g2 g3 => h2.fs.cells k cs T fr (h.fs.cells k cs T fr g1 g2 g3) g2 ?_⟩, h.own, fun q hq => ?_⟩
  · intro c
    have c := List.mem_singleton.1 c
    subst c
    rcases h.own with c | c
    · exact g3 c
    · have := (Array.getElem?_eq_some_iff.1 g1).1; omega
  · rcases h2.owns q hq with c | c
    · have c := List.mem_singleton.1 c
      rw [c]; exact h.own
    · exact .inr (Nat.le_trans h.fs.size c)
theorem HSt.row {w0 w W W' : World} {B : WB} {V : WV} {s s' : CS} {S : List Nat} {hb pa : Nat} {x y : HP} {qs qs' : List (Nat × Dg)} {p : Int × Int × Int} (h : HSt w0 w W B V s S hb pa x qs p) (h2 : HMB w0 W W' B V s' [hb] hb y qs') : HSt w0 w W' B V s' S hb pa y qs' p := by
  obtain ⟨cs, g1⟩ := h.m.hp.blk
  refine ⟨h.m.re h2, h2.fs.cells _ _ _ _ h.a rfl fun c => ?_⟩
  have c := List.mem_singleton.1 c
  have := h.a
  rw [c, g1] at this
  simp only [Option.some.injEq, Obj.cells.injEq] at this
  exact absurd this.2.1 (by decide)
set_option maxRecDepth 10000 in
set_option maxHeartbeats 4000000 in
theorem hpstep {w0 w W : World} {B : WB} {V : WV} {s : CS} {S : List Nat} {hb : Nat} {x : HP} {qs : List (Nat × Dg)} (h : HMB w0 w W B V s S hb x qs) (hr : s.room) (hs0 : w0.heap.size ≤ w.heap.size) (hl0 : x.left ≠ 0) (hwf : ∀ p ∈ x.way, (Lit.int .i64 p.2.2).wf = true) (hh : ∀ d r, x.l = d :: r → d.over = false) :
    Calls Tryz.prog 69 #[.pointer (some ⟨hb, 0, none⟩), .pointer (some ⟨B.wb, 0, none⟩)] W fun e w' => ∃ qs', e = .returned (.bool (((x.next s).2.left : Int) == 0)) ∧ HMB w0 w w' B V (x.next s).1 S hb (x.next s).2 qs' := by
  obtain ⟨k, hl⟩ : ∃ k, x.left = k + 1 := ⟨x.left - 1, by omega⟩
  have hov := hpover h.hp
  rw [show ((x.left : Int) == 0) = false from beq_eq_false_iff_ne.2 (by omega)] at hov
  have hfew := h.hp.few
  have hlt := h.hp.lt
  obtain ⟨p, hp⟩ : ∃ p, x.way[k]? = some p := ⟨x.way[k]'(by omega), List.getElem?_eq_getElem (by omega)⟩
  obtain ⟨q, hq⟩ : ∃ q, x.way[x.left]? = some q := ⟨x.way[x.left]'(by omega), List.getElem?_eq_getElem (by omega)⟩
  have hps := hwf p (List.mem_of_getElem? hp)
  have hqs := hwf q (List.mem_of_getElem? hq)
  obtain ⟨vw, vd, g1, g2, g3⟩ := h.hp.ex
  have c0 : W.cell? ⟨hb, 0, none⟩ = some vw := hcell g1 0
  have c1 : W.cell? ⟨hb, 1, none⟩ = some (.int .i64 x.left) := hcell g1 1
  obtain ⟨g, cap, rfl, hnc⟩ := own_some g2 (by omega)
  obtain ⟨p0, p1, p2, -⟩ := own_cell3 g2 k p hp
  have hw1 : wrap64 ((x.left : Int) - 1) = (k : Int) := by rw [IntWalk.wrap64_in _ (by omega)]; omega
  have hk1 : (k : Int) < x.way.length := by omega
  have hk3 : k < x.way.length := by omega
  have al : ∀ (ob : Obj) {q j : Nat} {u : Value} {w : World}, w.cell? ⟨q, j, none⟩ = some u → (w.alloc ob).cell? ⟨q, j, none⟩ = some u := fun ob q j u w hu => by rw [World.cell?_alloc_past _ _ _ (World.block_lt_of_cell? _ _ hu)]; exact hu
  have c0' := fun ob => al ob c0; have c1' := fun ob => al ob c1; have p0' := fun ob => al ob p0; have p1' := fun ob => al ob p1; have p2' := fun ob => al ob p2
  have hst : HSt w0 w (W.alloc (.cells #[.int .i64 p.1, .int .i64 p.2.1, .int .i64 p.2.2] 43)).drew B V s S hb W.heap.size x qs p := ⟨h.below (below_alloc W _).drew, heap_alloc_new W _⟩
  have H1 := Lib.hid hst; have HR := Lib.hid hr; have HS0 := Lib.hid hs0; have HH := Lib.hid hh; have HP1 := Lib.hid hp; have HQ1 := Lib.hid hq; have HL := Lib.hid hl; have HPS := Lib.hid hps; have HQS := Lib.hid hqs
  clear h hr hs0 hl0 hwf hh hl hfew hlt hp hq hps hqs g1 g2 g3 hnc al hst
  go_enter Tryz.func69, Tryz.ntmps69
  go_upto_region 3 with (go_at_call 147; refine hov.mono ?_; intro e w2 hh; obtain ⟨hh1, hh2⟩ := hh; subst hh1; obtain rfl := hh2.symm; clear hov)
  go_region
  go_upto_region 5 with (fail)
  clear c0 c1 p0 p1 p2 c0' c1' p0' p1' p2'
  change Code.wp _ _ _ _ (W.alloc (.cells #[.int .i64 p.1, .int .i64 p.2.1, .int .i64 p.2.2] 43)).drew
  generalize (W.alloc (.cells #[.int .i64 p.1, .int .i64 p.2.1, .int .i64 p.2.2] 43)).drew = w1 at *
  generalize W.heap.size = pa at *
  obtain ⟨vw1, vd1, g1, -, g3⟩ := H1.out.m.hp.ex
  have c3 : w1.cell? ⟨hb, 3, none⟩ = some (.bool x.load) := hcell g1 3
  have c4 : w1.cell? ⟨hb, 4, none⟩ = some vd1 := hcell g1 4
  clear g1
  rcases qs with _ | ⟨⟨b, d⟩, r⟩
  · obtain ⟨a, c, rfl⟩ := do_nil g3
    clear g3
    have hxl : x.l = [] := H1.out.m.hp.eq
    have hbd := wf_bd (H1.out.m.ws.own.wf (tagsA p.1 p.2.1))
    have hkl : x.left - 1 = k := by have := HL.out; omega
    have hnx : x.next s = if x.load = false then (s.acc 1 (tagsA p.1 p.2.1) (s.val (tagsA p.1 p.2.1)), { x with tag := tagOf (s.val (tagsA p.1 p.2.1)) p.2.2, load := true })
      else (s.acc 1 (itemA p.1 p.2.1 p.2.2) (s.val (itemA p.1 p.2.1 p.2.2)), ({ x with l := x.row p q (wrap64 (s.val (itemA p.1 p.2.1 p.2.2))) } : HP).on) := by
      unfold HP.next
      rw [hxl]
      dsimp only
      rw [hkl, HP1.out, HQ1.out]
    have HXL := Lib.hid hxl; have HNX := Lib.hid hnx
    clear hxl hkl hnx
    obtain hld | hld : x.load = false ∨ x.load = true := by cases x.load <;> simp
    all_goals
      rw [hld] at c3
      have HLD0 := Lib.hid hld
      clear hld
    · have HNX : Hid (x.next s = (s.acc 1 (tagsA p.1 p.2.1) (s.val (tagsA p.1 p.2.1)), { x with tag := tagOf (s.val (tagsA p.1 p.2.1)) p.2.2, load := true })) := by have := HNX.out; rw [if_pos HLD0.out] at this; exact this
      have hTG := fun W => tags_any p.1 p.2.1 W
      have hAw := tagsA_wf p.1 p.2.1
      have hto := fun W => tag_any (s.val (tagsA p.1 p.2.1)) p.2.2 W hbd.1 hbd.2
      have hld2 := fun W (h : HSt w0 w W B V s S hb pa x [] p) => h.m.ws.load HR.out (tagsA p.1 p.2.1) hAw
      generalize tagsA p.1 p.2.1 = A at *
      generalize s.val A = v at *
      generalize tagOf v p.2.2 = tg at *
      have HTO := Lib.hid hto; have HTG := Lib.hid hTG; have HLD := Lib.hid hld2
      have s1 : TSt B.wb B.cb pa p w1 := H1.out.t
      clear hto hTG hAw hbd hld2
      go_upto_region 8 with (fail)
      clear s1 c3 c4
      have H2 := Lib.hid (H1.out.below (show Below w1.heap.size w1 w1.drew from (Below.refl _ _).drew))
      have s2 : TSt B.wb B.cb pa p w1.drew := H2.out.t
      clear H1
      go_region_held2 (fun W => TSt B.wb B.cb pa p W) (first | assumption | exact s8 _) (first
        | (go_at_call 119; refine (HTG.out _).mono ?_; intro e w3 hh; obtain ⟨hh1, b3⟩ := hh; subst hh1; have H3 := Lib.hid (H2.out.below b3); have s3 : TSt B.wb B.cb pa p w3 := H3.out.t; have hl3 := HLD.out _ H3.out; clear b3 s2 H2)
        | (go_at_call 148; refine hl3.mono ?_; intro e w4 hh; obtain ⟨hh1, h4, f4⟩ := hh; subst hh1; have H4 := Lib.hid (H3.out.move h4 f4); have s4 : TSt B.wb B.cb pa p w4 := H4.out.t; clear h4 f4 hl3 s3 H3)
        | (go_at_call 143; refine (HTO.out _).mono ?_; intro e w5 hh; obtain ⟨hh1, b5⟩ := hh; subst hh1; have H5 := Lib.hid (H4.out.below b5); have s5 : TSt B.wb B.cb pa p w5 := H5.out.t; have s8 : ∀ v, TSt B.wb B.cb pa p (w5.setCell ⟨hb, 2, none⟩ v) := H5.out.t2; have ff := H5.out.m.hp.f; obtain ⟨-, c2, c3⟩ := H5.out.m.hp.c; clear b5 s4 H4))
      have H6 := Lib.hid ((H5.out.m.set (y := { x with tag := tg }) 2 (.int .i64 tg) rfl rfl H5.out.m.hp.lt (fun _ _ => rfl)).set (y := { x with tag := tg, load := true }) 3 (.bool true) rfl rfl H5.out.m.hp.lt (fun _ _ => rfl))
      clear s8 s5 H5
      go_wp2_with (fail)
      go_ret
      refine ⟨[], ?_, ?_⟩
      · rw [HNX.out]
        show _ = Ending.returned (.bool ((x.left : Int) == 0))
        rw [show ((x.left : Int) == 0) = false from beq_eq_false_iff_ne.2 (by have := HL.out; omega)]
        try rfl
      · rw [HNX.out]
        exact H6.out
    · have HNX : Hid (x.next s = (s.acc 1 (itemA p.1 p.2.1 p.2.2) (s.val (itemA p.1 p.2.1 p.2.2)), ({ x with l := x.row p q (wrap64 (s.val (itemA p.1 p.2.1 p.2.2))) } : HP).on)) := by have := HNX.out; rw [if_neg (by rw [HLD0.out]; decide)] at this; exact this
      have hIT := fun W => item_any p.1 p.2.1 p.2.2 HPS.out W
      have hAw := itemA_wf p.1 p.2.1 p.2.2
      have hld2 := fun W (h : HSt w0 w W B V s S hb pa x [] p) => h.m.ws.load HR.out (itemA p.1 p.2.1 p.2.2) hAw
      generalize itemA p.1 p.2.1 p.2.2 = A at *
      have hvb := wf_bd (H1.out.m.ws.own.wf A)
      obtain ⟨s2, hs2⟩ : ∃ s2, s2 = s.acc 1 A (s.val A) := ⟨_, rfl⟩
      rw [← hs2] at hld2 HNX
      generalize s.val A = v at *
      have hrv := wrap64_lt v
      have HIT := Lib.hid hIT; have HLD := Lib.hid hld2; have HRV := Lib.hid hrv
      have s1 : TSt B.wb B.cb pa p w1 := H1.out.t
      clear hIT hAw hbd hld2 hrv hvb hs2
      go_upto_region 4 with (fail)
      clear s1 c3 c4
      have H2 := Lib.hid (H1.out.below (show Below w1.heap.size w1 w1.drew from (Below.refl _ _).drew))
      have s2' : TSt B.wb B.cb pa p w1.drew := H2.out.t
      clear H1
      go_region_held2 (fun W => TSt B.wb B.cb pa p W) (first | assumption | exact s8 _) (first
        | (go_at_call 144; refine (HIT.out _).mono ?_; intro e w3 hh; obtain ⟨hh1, b3⟩ := hh; subst hh1; have H3 := Lib.hid (H2.out.below b3); have s3 : TSt B.wb B.cb pa p w3 := H3.out.t; have hl3 := HLD.out _ H3.out; clear b3 s2' H2)
        | (go_at_call 148; refine hl3.mono ?_; intro e w4 hh; obtain ⟨hh1, h4, f4⟩ := hh; subst hh1; have H4 := Lib.hid (H3.out.move h4 f4); have s4 : TSt B.wb B.cb pa p w4 := H4.out.t; have hrw := hprow H4.out.m.self k HL.out HP1.out HQ1.out HPS.out HQS.out (wrap64 v) HRV.out H4.out.m.ws.below.size; clear h4 f4 hl3 s3 H3)
        | (go_at_call 149; rw [IntWalk.i64_left]; refine hrw.mono ?_; intro e w5 hh; obtain ⟨hh1, qs5, h5⟩ := hh; subst hh1; have H5 := Lib.hid (H4.out.row h5); have s5 : TSt B.wb B.cb pa p w5 := H5.out.t; have hon5 := hpon H5.out.m (by show x.left ≠ 0; have := HL.out; omega); clear h5 s4 hrw H4))
      clear s5 H5
      go_upto_region 12 with (go_at_call 150; refine hon5.mono ?_; intro e w6 hh; obtain ⟨hh1, qs6, h6⟩ := hh; subst hh1; have H6 := Lib.hid h6; have ho6 := hpover h6.hp; clear h6 hon5)
      go_wp2_with (go_at_call 147; refine ho6.mono ?_; intro e w7 hh; obtain ⟨hh1, hh2⟩ := hh; subst hh1; obtain rfl := hh2.symm; clear ho6)
      go_ret
      rw [HNX.out]
      exact ⟨qs6, rfl, H6.out⟩
  · obtain ⟨g', o', k', rfl, hc, hrk, hkm, -⟩ := do_pop g3
    have hxl : x.l = d :: r.map Prod.snd := H1.out.m.hp.eq
    have hdo := HH.out d _ hxl
    have hnx : x.next s = ((d.step s).1, ({ x with l := (d.step s).2 :: r.map Prod.snd } : HP).on) := by
      unfold HP.next
      rw [hxl]
    have hda := (H1.out.m.hp.dos (b, d) (List.mem_cons_self)).2
    have hlo := (H1.out.m.hp.dos (b, d) (List.mem_cons_self)).1
    have hz0 : (0 : Int) < (r.length : Int) + 1 := by omega
    have hstp : ∀ (W' : World), WS w0 W' B V (d.step s).1 → DgAt W' b (d.step s).2 → Fx wTy true b w1 W' → HMB w0 w W' B V (d.step s).1 S hb { x with l := (d.step s).2 :: r.map Prod.snd } ((b, (d.step s).2) :: r) := fun W' h2 h3 hf => H1.out.m.step h2 h3 hf
    have HNX := Lib.hid hnx; have HST := Lib.hid hstp; have HW1 := Lib.hid H1.out.m.ws
    have hon : ∀ (W' : World), HMB w0 w W' B V (d.step s).1 S hb { x with l := (d.step s).2 :: r.map Prod.snd } ((b, (d.step s).2) :: r) → Calls Tryz.prog 150 #[.pointer (some ⟨hb, 0, none⟩)] W' fun e w' => e = .returned (.tuple #[]) ∧ ∃ qs', HMB w0 w w' B V (d.step s).1 S hb ({ x with l := (d.step s).2 :: r.map Prod.snd } : HP).on qs' := fun W' h => hpon h (by show x.left ≠ 0; have := HL.out; omega)
    have HON := Lib.hid hon
    clear g3 hxl hnx hrk hkm hstp hon c3 H1
    cases d with
    | mark xs =>
      have hk := dgstep_mark HW1.out HR.out hlo hda.1 hdo hda.2
      have hc2 : w1.cell? ⟨g', o', none⟩ = some (.iface 225 (.pointer (some ⟨b, 0, none⟩))) := hc
      clear hc hda hlo hdo
      go_upto_region 11 with (go_at_call 304; refine hk.mono ?_; intro e w3 hh; obtain ⟨⟨rv, hh1⟩, h3, d3, f3⟩ := hh; subst hh1; have H3 := Lib.hid (HST.out _ h3 d3 f3); have hon3 := HON.out _ H3.out; clear h3 d3 f3 hk hc2 c4)
      go_upto_region 12 with (go_at_call 150; refine hon3.mono ?_; intro e w6 hh; obtain ⟨hh1, qs6, h6⟩ := hh; subst hh1; have H6 := Lib.hid h6; have ho6 := hpover h6.hp; clear h6 hon3)
      go_wp2_with (go_at_call 147; refine ho6.mono ?_; intro e w7 hh; obtain ⟨hh1, hh2⟩ := hh; subst hh1; obtain rfl := hh2.symm; clear ho6)
      go_ret
      rw [HNX.out]
      exact ⟨qs6, rfl, H6.out⟩
    | out σ =>
      have hk := dgstep_out HW1.out HR.out hlo hda.1 hdo hda.2
      have hc2 : w1.cell? ⟨g', o', none⟩ = some (.iface 223 (.pointer (some ⟨b, 0, none⟩))) := hc
      clear hc hda hlo hdo
      go_upto_region 11 with (go_at_call 298; refine hk.mono ?_; intro e w3 hh; obtain ⟨⟨rv, hh1⟩, h3, d3, f3⟩ := hh; subst hh1; have H3 := Lib.hid (HST.out _ h3 d3 f3); have hon3 := HON.out _ H3.out; clear h3 d3 f3 hk hc2 c4)
      go_upto_region 12 with (go_at_call 150; refine hon3.mono ?_; intro e w6 hh; obtain ⟨hh1, qs6, h6⟩ := hh; subst hh1; have H6 := Lib.hid h6; have ho6 := hpover h6.hp; clear h6 hon3)
      go_wp2_with (go_at_call 147; refine ho6.mono ?_; intro e w7 hh; obtain ⟨hh1, hh2⟩ := hh; subst hh1; obtain rfl := hh2.symm; clear ho6)
      go_ret
      rw [HNX.out]
      exact ⟨qs6, rfl, H6.out⟩
    | put σ gg rr =>
      have hk := dgstep_put HW1.out HR.out hlo hda.1 hdo hda.2
      have hc2 : w1.cell? ⟨g', o', none⟩ = some (.iface 219 (.pointer (some ⟨b, 0, none⟩))) := hc
      clear hc hda hlo hdo
      go_upto_region 11 with (go_at_call 288; refine hk.mono ?_; intro e w3 hh; obtain ⟨⟨rv, hh1⟩, h3, d3, f3⟩ := hh; subst hh1; have H3 := Lib.hid (HST.out _ h3 d3 f3); have hon3 := HON.out _ H3.out; clear h3 d3 f3 hk hc2 c4)
      go_upto_region 12 with (go_at_call 150; refine hon3.mono ?_; intro e w6 hh; obtain ⟨hh1, qs6, h6⟩ := hh; subst hh1; have H6 := Lib.hid h6; have ho6 := hpover h6.hp; clear h6 hon3)
      go_wp2_with (go_at_call 147; refine ho6.mono ?_; intro e w7 hh; obtain ⟨hh1, hh2⟩ := hh; subst hh1; obtain rfl := hh2.symm; clear ho6)
      go_ret
      rw [HNX.out]
      exact ⟨qs6, rfl, H6.out⟩
end Go.Proofs.YtdbgfidnccpmdaaGreat

/-
  Hops, run in a world by themselves.
-/
namespace Go.Proofs.YtdbgfidnccpmdaaGreat
open Go.RowKit Go.Maps TagPure
set_option linter.unusedVariables false

def hpit (q : CS × HP) : CS × HP := q.2.next q.1
def hpits (q : CS × HP) : Nat → CS × HP
  | 0 => q
  | n + 1 => hpit (hpits q n)
/-- May it make a step? -/
def hpgo (x : HP) : Bool := !(x.left == 0) && match x.l with
  | d :: _ => !d.over
  | [] => true
def hpchk (q : CS × HP) : Nat → Bool
  | 0 => true
  | n + 1 => hpchk q n && hpgo (hpits q n).2
theorem hpchk_at {q : CS × HP} {n k : Nat} (h : hpchk q n = true) (hk : k < n) : hpgo (hpits q k).2 = true := by
  induction n with
  | zero => omega
  | succ n ih =>
    simp only [hpchk, Bool.and_eq_true] at h
    rcases Nat.lt_or_ge k n with h1 | h1
    · exact ih h.1 h1
    · obtain rfl : k = n := by omega
      exact h.2
theorem hpgo_is {x : HP} (h : hpgo x = true) : x.left ≠ 0 ∧ ∀ d r, x.l = d :: r → d.over = false := by
  simp only [hpgo, Bool.and_eq_true, Bool.not_eq_true', beq_eq_false_iff_ne] at h
  refine ⟨h.1, fun d r e => ?_⟩
  have := h.2
  rw [e] at this
  simpa using this
theorem on_way (x : HP) : x.on.way = x.way := by unfold HP.on; split <;> rfl
theorem next_way (s : CS) (x : HP) : (x.next s).2.way = x.way := by
  unfold HP.next
  split
  · exact on_way _
  · split
    · split
      · rfl
      · exact on_way _
    · rfl
theorem hpits_way (q : CS × HP) (n : Nat) : (hpits q n).2.way = q.2.way := by
  induction n with
  | zero => rfl
  | succ n ih => exact (next_way _ _).trans ih
theorem dgstep_le (s : CS) (d : Dg) : (d.step s).1.n ≤ s.n + 1 ∧ (d.step s).1.cnt ≤ s.cnt + 1 := by
  have ha : ∀ k a i, (s.acc k a i).n = s.n + 1 ∧ (s.acc k a i).cnt = s.cnt + 1 := fun _ _ _ => ⟨rfl, rfl⟩
  cases d with
  | mark xs => cases xs with
    | nil => exact ⟨Nat.le_succ _, by show s.cnt ≤ s.cnt + 1; omega⟩
    | cons a r => exact ⟨Nat.le_refl _, Nat.le_refl _⟩
  | out σ =>
    unfold Dg.step
    dsimp only
    split
    · exact ⟨Nat.le_refl _, Nat.le_refl _⟩
    · split <;> exact ⟨Nat.le_refl _, Nat.le_refl _⟩
  | put σ g r =>
    unfold Dg.step
    dsimp only
    split
    · exact ⟨Nat.le_refl _, Nat.le_refl _⟩
    · split <;> exact ⟨Nat.le_refl _, Nat.le_refl _⟩
theorem next_le (s : CS) (x : HP) : (x.next s).1.n ≤ s.n + 1 ∧ (x.next s).1.cnt ≤ s.cnt + 1 := by
  unfold HP.next
  split
  · exact dgstep_le _ _
  · split
    · split <;> exact ⟨Nat.le_refl _, Nat.le_refl _⟩
    · exact ⟨Nat.le_succ _, by show s.cnt ≤ s.cnt + 1; omega⟩
theorem hpits_le (q : CS × HP) (n : Nat) : (hpits q n).1.n ≤ q.1.n + n ∧ (hpits q n).1.cnt ≤ q.1.cnt + n := by
  induction n with
  | zero => exact ⟨Nat.le_refl _, Nat.le_refl _⟩
  | succ n ih =>
    have h := next_le (hpits q n).1 (hpits q n).2
    exact ⟨by show ((hpits q n).2.next (hpits q n).1).1.n ≤ _; omega, by show ((hpits q n).2.next (hpits q n).1).1.cnt ≤ _; omega⟩
set_option maxRecDepth 10000 in
set_option maxHeartbeats 2000000 in
theorem hprun {w0 w : World} {B : WB} {V : WV} {s : CS} {hb : Nat} {x : HP} {qs0 : List (Nat × Dg)} (n m c : Nat) (hn : n < m) (hm : m ≤ 1000) (hc : s.n ≤ c ∧ s.cnt ≤ c) (hcl : c + m < lim) (hB : HMB w0 w w B V s [hb] hb x qs0) (hgo : hpchk (s, x) n = true) (hwf : ∀ p ∈ x.way, (Lit.int .i64 p.2.2).wf = true) (hend : (hpits (s, x) n).2.left = 0) :
    Calls Tryz.prog 36 #[.pointer (some ⟨B.wb, 0, none⟩), .iface 157 (.pointer (some ⟨hb, 0, none⟩)), .int .i64 m] w fun e w' => ∃ qs, e = .returned (.int .i64 n) ∧ HMB w0 w w' B V (hpits (s, x) n).1 [hb] hb (hpits (s, x) n).2 qs := by
  have HB := Lib.hid hB; have HGO := Lib.hid hgo; have HEND := Lib.hid hend; have HN := Lib.hid hn; have HC := Lib.hid hc; have HCL := Lib.hid hcl; have HWF := Lib.hid hwf; have HM := Lib.hid hm
  have HS := Lib.hid hB.ws.below.size
  clear hB hgo hend hn hc hcl hwf
  go_enter Tryz.func36, Tryz.ntmps36
  go_wp2
  go_loopw [7] (fun i wr => ∃ k : Nat, k ≤ n ∧ i = .int .i64 k ∧ ∃ qs, HMB w0 w wr B V (hpits (s, x) k).1 [hb] hb (hpits (s, x) k).2 qs) (fun i _ => n - (intOf i).toNat)
  case atStart => exact ⟨0, Nat.zero_le _, rfl, qs0, HB.out⟩
  case round =>
    clear HB
    obtain ⟨k, hk, rfl, qs, hb⟩ := hrel
    have hkm : (k : Int) < m := by have := HN.out; omega
    have hov := hpover hb.hp
    by_cases hlt : k < n
    · obtain ⟨hl0, hh⟩ := hpgo_is (hpchk_at HGO.out hlt)
      rw [show (((hpits (s, x) k).2.left : Int) == 0) = false from beq_eq_false_iff_ne.2 (by omega)] at hov
      have hle := hpits_le (s, x) k
      have hst := hpstep hb (CS.room_of (c + k) (by have := HC.out; dsimp only at hle; omega) (by have := HCL.out; have := HN.out; omega)) HS.out hl0 (by rw [hpits_way]; exact HWF.out) hh
      obtain ⟨d, hd⟩ : ∃ d, d = (((((hpits (s, x) k).2.next (hpits (s, x) k).1).2.left : Int)) == 0) := ⟨_, rfl⟩
      rw [← hd] at hst
      have HLT := Lib.hid hlt
      clear hb hl0 hh hle hd hlt hk
      go_wp2_with (first
        | (go_at_call 147; refine hov.mono ?_; intro e w2 hh; obtain ⟨hh1, hh2⟩ := hh; subst hh1; obtain rfl := hh2.symm; clear hov)
        | (go_at_call 69; refine hst.mono ?_; intro e w3 hh; obtain ⟨qs3, hh1, h3⟩ := hh; subst hh1; have H3 := Lib.hid h3; clear h3 hst))
      go_roundw
      case measure => have := HLT.out; simp [intOf]; omega
      case rel => exact ⟨k + 1, HLT.out, by have := HLT.out; go_num, qs3, H3.out⟩
    · obtain rfl : k = n := by omega
      rw [show (((hpits (s, x) k).2.left : Int) == 0) = true by rw [HEND.out]; rfl] at hov
      have HBB := Lib.hid hb
      clear hb hk hlt
      go_wp2_with (go_at_call 147; refine hov.mono ?_; intro e w2 hh; obtain ⟨hh1, hh2⟩ := hh; subst hh1; obtain rfl := hh2.symm; clear hov)
      go_ret
      exact ⟨qs, rfl, HBB.out⟩
end Go.Proofs.YtdbgfidnccpmdaaGreat
