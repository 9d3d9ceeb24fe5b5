/-
  A First that comes in: opened; is it great?
-/
import Derived.Test.YteofdldlmmkgbaaBegin
namespace Go.Proofs.Yteofdldlmmkgbaa
open Go.RowKit
set_option linter.unusedVariables false

/-- It may be read. -/
structure FstRd (w : World) (f : Fst) : Prop where
  its : Itms w (.slice f.ia f.its.length f.ic) f.its
  puts : Tri w f.pa f.pc f.puts
  sts : RWds w f.sa f.sc f.sts
theorem FstRd.below {w w' : World} {f : Fst} (h : FstRd w f) (hb : Below w.heap.size w w') : FstRd w' f := ⟨h.its.below hb (Nat.le_refl _), h.puts.below hb, h.sts.below hb⟩
theorem wf_u8 {x : Int} (h : (Lit.int .u8 x).wf = true) : 0 ≤ x ∧ x < 256 := by
  have hmin : IntKind.u8.min = 0 := rfl
  have hmax : IntKind.u8.max = 255 := rfl
  simp only [Lit.wf, Bool.and_eq_true, decide_eq_true_eq] at h; omega
theorem tri_of {w : World} {v : Value} (h : Leaf.holds w (.sl [.int .u8, .int .u8, .int .u8]) v) : ∃ (l : List (Int × Int × Int)) (a : Option Addr) (cap : Nat), v = .slice a l.length cap ∧ Tri w a cap l := by
  obtain ⟨l, a, cap, rfl, h1, h2, h3, h4, h5⟩ := recs_of h
  obtain ⟨m, hm, hp⟩ := list_of (fun i (x : Int × Int × Int) => l[i]? = some [.int .u8 x.1, .int .u8 x.2.1, .int .u8 x.2.2] ∧ (0 ≤ x.1 ∧ x.1 < 256) ∧ (0 ≤ x.2.1 ∧ x.2.1 < 256) ∧ (0 ≤ x.2.2 ∧ x.2.2 < 256)) l.length (fun i hi => by
    obtain ⟨c0, r, e0, g0, h⟩ := allHold_cons (h4 _ (List.getElem_mem hi))
    obtain ⟨c1, r, rfl, g1, h⟩ := allHold_cons h
    obtain ⟨c2, r, rfl, g2, h⟩ := allHold_cons h
    obtain rfl := allHold_nil h
    obtain ⟨z0, rfl, k0⟩ := holds_int g0
    obtain ⟨z1, rfl, k1⟩ := holds_int g1
    obtain ⟨z2, rfl, k2⟩ := holds_int g2
    exact ⟨(z0, z1, z2), by rw [List.getElem?_eq_getElem hi, e0], wf_u8 k0, wf_u8 k1, wf_u8 k2⟩)
  refine ⟨m, a, cap, by rw [hm], ⟨by omega, h2, fun x hx => ?_, ?_⟩⟩
  · obtain ⟨i, hi, rfl⟩ := List.mem_iff_getElem.1 hx
    exact (hp i hi).2
  · rcases h5 with rfl | ⟨b, off, rfl, h6⟩
    · exact .inl (List.length_eq_zero_iff.1 hm)
    · refine .inr ⟨b, off, rfl, fun i hi => ?_⟩
      have hi2 : i < l.length := by omega
      have hq := (hp i (by omega)).1
      rw [List.getElem?_eq_getElem hi2, Option.some.injEq] at hq
      have a0 := h6 i hi2 0 (by decide)
      have a1 := h6 i hi2 1 (by decide)
      have a2 := h6 i hi2 2 (by decide)
      rw [hq] at a0 a1 a2
      exact ⟨by simpa using a0, by simpa [Nat.add_assoc] using a1, by simpa [Nat.add_assoc] using a2⟩
theorem wds_of {w : World} {v : Value} (h : Leaf.holds w (.sl [.int .u64, .int .u64]) v) : ∃ (l : List (Int × Int)) (a : Option Addr) (cap : Nat), v = .slice a l.length cap ∧ RWds w a cap l := by
  obtain ⟨l, a, cap, rfl, h1, h2, h3, h4, h5⟩ := recs_of h
  obtain ⟨m, hm, hp⟩ := list_of (fun i (x : Int × Int) => l[i]? = some [.int .u64 x.1, .int .u64 x.2] ∧ (Lit.int .u64 x.1).wf = true ∧ (Lit.int .u64 x.2).wf = true) l.length (fun i hi => by
    obtain ⟨c0, r, e0, g0, h⟩ := allHold_cons (h4 _ (List.getElem_mem hi))
    obtain ⟨c1, r, rfl, g1, h⟩ := allHold_cons h
    obtain rfl := allHold_nil h
    obtain ⟨z0, rfl, k0⟩ := holds_int g0
    obtain ⟨z1, rfl, k1⟩ := holds_int g1
    exact ⟨(z0, z1), by rw [List.getElem?_eq_getElem hi, e0], k0, k1⟩)
  refine ⟨m, a, cap, by rw [hm], ⟨by omega, h2, fun x hx => ?_, ?_⟩⟩
  · obtain ⟨i, hi, rfl⟩ := List.mem_iff_getElem.1 hx
    exact (hp i hi).2
  · rcases h5 with rfl | ⟨b, off, rfl, h6⟩
    · exact .inl (List.length_eq_zero_iff.1 hm)
    · refine .inr ⟨b, off, rfl, fun i hi => ?_⟩
      have hi2 : i < l.length := by omega
      have hq := (hp i (by omega)).1
      rw [List.getElem?_eq_getElem hi2, Option.some.injEq] at hq
      have a0 := h6 i hi2 0 (by decide)
      have a1 := h6 i hi2 1 (by decide)
      rw [hq] at a0 a1
      exact ⟨by simpa using a0, by simpa [Nat.add_assoc] using a1⟩
def fstLeaves : List Leaf := [.int .i64, .int .i64, .int .i64, .int .i64, .int .i64, .bool, .sl itmLeaves, .sl [.int .u8, .int .u8, .int .u8], .sl [.int .u64, .int .u64], .int .i64]
theorem leaves_first : leaves Try.prog 5 49 = some fstLeaves := by kernel_rfl
theorem fst_of {w : World} {cs : List Value} (h : Leaf.allHold w fstLeaves cs) : ∃ f : Fst, cs = f.cells.toList ∧ FstRd w f := by
  unfold fstLeaves at h
  obtain ⟨c0, r, rfl, g0, h⟩ := allHold_cons h
  obtain ⟨c1, r, rfl, g1, h⟩ := allHold_cons h
  obtain ⟨c2, r, rfl, g2, h⟩ := allHold_cons h
  obtain ⟨c3, r, rfl, g3, h⟩ := allHold_cons h
  obtain ⟨c4, r, rfl, g4, h⟩ := allHold_cons h
  obtain ⟨c5, r, rfl, g5, h⟩ := allHold_cons h
  obtain ⟨c6, r, rfl, g6, h⟩ := allHold_cons h
  obtain ⟨c7, r, rfl, g7, h⟩ := allHold_cons h
  obtain ⟨c8, r, rfl, g8, h⟩ := allHold_cons h
  obtain ⟨c9, r, rfl, g9, h⟩ := allHold_cons h
  obtain rfl := allHold_nil h
  obtain ⟨z0, rfl, -⟩ := holds_int g0
  obtain ⟨z1, rfl, -⟩ := holds_int g1
  obtain ⟨z2, rfl, -⟩ := holds_int g2
  obtain ⟨z3, rfl, -⟩ := holds_int g3
  obtain ⟨z4, rfl, -⟩ := holds_int g4
  obtain ⟨z5, rfl⟩ := holds_bool g5
  obtain ⟨z9, rfl, -⟩ := holds_int g9
  obtain ⟨its, hi⟩ := itms_of g6
  obtain ⟨ia, ic, rfl, hi2⟩ := id hi
  obtain ⟨puts, pa, pc, rfl, hp⟩ := tri_of g7
  obtain ⟨sts, sa, sc, rfl, hs⟩ := wds_of g8
  exact ⟨⟨⟨z0, z1, z2, z3, z4⟩, z5, ia, ic, its, pa, pc, puts, sa, sc, sts, z9⟩, rfl, hi, hp, hs⟩

set_option maxRecDepth 10000 in
theorem fst_open {H : Type} {w : World} {enc : TypeId × Value → H} {base : Nat} {v : Value} {d : DataW H} {p : List MemPlace} (k : DataW.Trod enc Try.prog w 0 (fun _ => true) true 49 v d p) (o : Value.okWide Try.prog w .any base 49 v) : ∃ f : Fst, v = .agg f.cells ∧ FstRd w f := by
  obtain ⟨cs, rfl, -⟩ := Go.WideShapes.okWide_struct Try.underlying49 o
  obtain ⟨f, hf, hr⟩ := fst_of (opened leaves_first k)
  refine ⟨f, ?_, hr⟩
  have : cs.toList = f.cells.toList := hf
  rw [Array.toList_inj.1 this]
theorem fst_cells {W : World} {q : Nat} {f : Fst} (z : W.heap[q]? = some (.cells f.cells 49 (0, 0))) : W.cell? ⟨q, 0, none⟩ = some (.int .i64 f.c.bits) ∧ W.cell? ⟨q, 1, none⟩ = some (.int .i64 f.c.budget) ∧ W.cell? ⟨q, 2, none⟩ = some (.int .i64 f.c.tries) ∧ W.cell? ⟨q, 3, none⟩ = some (.int .i64 f.c.quantum) ∧ W.cell? ⟨q, 4, none⟩ = some (.int .i64 f.c.way) ∧ W.cell? ⟨q, 5, none⟩ = some (.bool f.gr) ∧ W.cell? ⟨q, 6, none⟩ = some (.slice f.ia f.its.length f.ic) ∧ W.cell? ⟨q, 7, none⟩ = some (.slice f.pa f.puts.length f.pc) ∧ W.cell? ⟨q, 8, none⟩ = some (.slice f.sa f.sts.length f.sc) ∧ W.cell? ⟨q, 9, none⟩ = some (.int .i64 f.ticks) :=
  ⟨hcell z 0, hcell z 1, hcell z 2, hcell z 3, hcell z 4, hcell z 5, hcell z 6, hcell z 7, hcell z 8, hcell z 9⟩

set_option maxRecDepth 100000 in
set_option maxHeartbeats 2000000 in
theorem great_any (f : Fst) (w : World) (hr : FstRd w f) : Calls Try.prog 18 #[.agg #[.int .i64 f.c.bits, .int .i64 f.c.budget, .int .i64 f.c.tries, .int .i64 f.c.quantum, .int .i64 f.c.way, .bool f.gr, .slice f.ia f.its.length f.ic, .slice f.pa f.puts.length f.pc, .slice f.sa f.sts.length f.sc, .int .i64 f.ticks]] w
    fun e w' => ∃ g, e = .returned (.bool g) ∧ Below w.heap.size w w' ∧ (g = false → FstIn w f ∧ ∀ y ∈ f.its, y.key.size ≤ 400 ∧ y.val.size ≤ 2000) := by
  have hB := below_alloc w (.cells f.cells 49)
  have z := heap_alloc_new w (.cells f.cells 49)
  have HR := Lib.hid hr; have HB := Lib.hid hB
  clear hr hB
  go_enter Try.func18, Try.ntmps18
  go_upto_region 1 with (fail)
  change Code.wp _ _ _ _ (w.alloc (.cells f.cells 49))
  generalize w.alloc (.cells f.cells 49) = w1 at *
  have c6 : w1.cell? ⟨w.heap.size, 6, none⟩ = some (.slice f.ia f.its.length f.ic) := hcell z 6
  have c7 : w1.cell? ⟨w.heap.size, 7, none⟩ = some (.slice f.pa f.puts.length f.pc) := hcell z 7
  have c8 : w1.cell? ⟨w.heap.size, 8, none⟩ = some (.slice f.sa f.sts.length f.sc) := hcell z 8
  clear z
  by_cases h1 : 40 < f.its.length
  · have d1 : decide ((40 : Int) < f.its.length) = true := by simp; omega
    go_wp2
    go_ret
    exact ⟨true, rfl, HB.out, fun h => by cases h⟩
  have d1 : decide ((40 : Int) < f.its.length) = false := by simp; omega
  by_cases h2 : 60 < f.puts.length
  · have d2 : decide ((60 : Int) < f.puts.length) = true := by simp; omega
    go_wp2
    go_ret
    exact ⟨true, rfl, HB.out, fun h => by cases h⟩
  have d2 : decide ((60 : Int) < f.puts.length) = false := by simp; omega
  by_cases h3 : 60 < f.sts.length
  · have d3 : decide ((60 : Int) < f.sts.length) = true := by simp; omega
    go_wp2
    go_ret
    exact ⟨true, rfl, HB.out, fun h => by cases h⟩
  have d3 : decide ((60 : Int) < f.sts.length) = false := by simp; omega
  have HN : Hid (f.its.length ≤ 40 ∧ f.puts.length ≤ 60 ∧ f.sts.length ≤ 60) := ⟨by omega, by omega, by omega⟩
  clear h2 h3
  go_wp2_with fail
  clear d1 d2 d3
  go_loopw [3] (fun i wr => ∃ k : Nat, k ≤ f.its.length ∧ i = .int .i64 k ∧ w1 = wr ∧ ∀ j, (hj : j < f.its.length) → j < k → (f.its[j]).key.size ≤ 400 ∧ (f.its[j]).val.size ≤ 2000) (fun i _ => f.its.length - (intOf i).toNat)
  case atStart => exact ⟨0, by omega, rfl, rfl, fun j _ h => by omega⟩
  case round =>
    obtain ⟨k, hk, rfl, rfl, hs⟩ := hrel
    by_cases hlt : k < f.its.length
    · have hlt' : (k : Int) < f.its.length := by omega
      obtain ⟨b, off, y, hia, hy, q0, q1, q2, q3, q4, q5⟩ := Itms.cell HR.out.its k hlt
      have hg : b < w.heap.size := World.block_lt_of_cell? _ _ q0
      have q0 := (HB.out.cell (p := ⟨b, _, none⟩) hg).trans q0
      have q1 := (HB.out.cell (p := ⟨b, _, none⟩) hg).trans q1
      rw [hia] at c6
      have hyk : f.its[k] = y := by rw [List.getElem?_eq_getElem hlt] at hy; exact Option.some.inj hy
      have HS := Lib.hid hs; have HY := Lib.hid hyk
      clear hs hy hyk hia hg q2 q3 q4 q5
      by_cases hk1 : 400 < y.key.size
      · have e1 : decide ((400 : Int) < y.key.size) = true := by simp; omega
        go_wp2
        go_ret
        exact ⟨true, rfl, HB.out, fun h => by cases h⟩
      have e1 : decide ((400 : Int) < y.key.size) = false := by simp; omega
      by_cases hv1 : 2000 < y.val.size
      · have e2 : decide ((2000 : Int) < y.val.size) = true := by simp; omega
        go_wp2
        go_ret
        exact ⟨true, rfl, HB.out, fun h => by cases h⟩
      have e2 : decide ((2000 : Int) < y.val.size) = false := by simp; omega
      have HYS : Hid (y.key.size ≤ 400 ∧ y.val.size ≤ 2000) := ⟨by omega, by omega⟩
      clear hk1 hv1
      go_wp2
      go_roundw
      case rel => exact ⟨k + 1, by omega, by go_num, by first | rfl | trivial, fun j hj hjk => by
        rcases Nat.lt_or_ge j k with h | h
        · exact HS.out j hj h
        · obtain rfl : j = k := by omega
          rw [HY.out]; exact HYS.out⟩
      case measure => simp [intOf]; omega
    · obtain rfl : k = f.its.length := by omega
      have HS := Lib.hid hs
      clear hs
      go_wp2
      go_ret
      refine ⟨false, rfl, HB.out, fun _ => ?_⟩
      have hall : ∀ y ∈ f.its, y.key.size ≤ 400 ∧ y.val.size ≤ 2000 := fun y hy => by
        obtain ⟨i, hi, rfl⟩ := List.mem_iff_getElem.1 hy
        exact HS.out i hi hi
      exact ⟨⟨HR.out.its, HR.out.puts, HR.out.sts, HN.out.1, HN.out.2.1, HN.out.2.2, fun y hy => by have := (hall y hy).1; omega⟩, hall⟩
end Go.Proofs.Yteofdldlmmkgbaa
