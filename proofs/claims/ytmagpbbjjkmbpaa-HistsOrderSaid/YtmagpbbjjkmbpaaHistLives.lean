/-
  Histories: layer 34's example.
-/
import Derived.Test.YtmagpbbjjkmbpaaHistWell
namespace Go.Proofs.Ytmagpbbjjkmbpaa
open Go.RowKit Go.Maps Go.Sort
set_option linter.unusedVariables false

def x34a : HC := ⟨0, 0, ⟨#[]⟩, ⟨#[]⟩, 0, 0, 0, 0, 0, 4, 0, 0, ⟨#[]⟩, ⟨#[]⟩, 0, 0, 0, 0, 0, 3⟩
def x34b : HC := ⟨1, 0, ⟨#[]⟩, ⟨#[]⟩, 0, 0, 0, 0, 1, 9, 0, 0, ⟨#[]⟩, ⟨#[]⟩, 0, 0, 0, 0, 0, 6⟩
def d34 (s : Int) : HD := ⟨s, ⟨#[]⟩, ⟨#[]⟩, 0, 0, 0, 0⟩
def h34 (a d : Nat) (s : Int) : Hst := ⟨some ⟨a, 0, none⟩, 2, [x34a, x34b], some ⟨d, 0, none⟩, 1, [d34 s]⟩
theorem x34a_wf : x34a.wf := by constructor <;> decide
theorem x34b_wf : x34b.wf := by constructor <;> decide
theorem d34_wf (s : Int) (h : (Lit.int .i64 s).wf = true) : (d34 s).wf :=
  ⟨h, (by decide : (⟨#[]⟩ : ByteArray).size ≤ maxLen), (by decide : (⟨#[]⟩ : ByteArray).size ≤ maxLen), (by decide : (Lit.int .u32 0).wf = true), (by decide : (Lit.int .u64 0).wf = true), (by decide : (Lit.int .i64 0).wf = true), (by decide : (Lit.int .i64 0).wf = true)⟩
theorem h34_rd {w : World} {a d : Nat} {s : Int} (hs : (Lit.int .i64 s).wf = true) (ha : w.heap[a]? = some (.cells (x34a.cells ++ x34b.cells).toArray 57 (0, 0))) (hd : w.heap[d]? = some (.cells (d34 s).cells.toArray 62 (0, 0))) : HstRd w (h34 a d s) := by
  refine ⟨⟨Nat.le_refl 2, by show 2 ≤ maxLen; unfold maxLen; decide, (fun c => by cases c), fun x hx => ?_, .inr ⟨a, 0, rfl, fun i hi j hj => ?_⟩⟩, ⟨Nat.le_refl 1, by show 1 ≤ maxLen; unfold maxLen; decide, (fun c => by cases c), fun x hx => ?_, .inr ⟨d, 0, rfl, fun i hi j hj => ?_⟩⟩⟩
  · rcases List.mem_cons.1 hx with rfl | hx
    · exact x34a_wf
    · rw [List.mem_singleton.1 hx]; exact x34b_wf
  · rw [hblk ha]
    have hi2 : i < 2 := hi
    match i, hi2 with
    | 0, _ =>
      show (x34a.cells ++ x34b.cells).toArray[0 + (0 * 20 + j)]? = x34a.cells[j]?
      rw [List.getElem?_toArray, show 0 + (0 * 20 + j) = j by omega, List.getElem?_append_left (by show j < 20; omega)]
    | 1, _ =>
      show (x34a.cells ++ x34b.cells).toArray[0 + (1 * 20 + j)]? = x34b.cells[j]?
      rw [List.getElem?_toArray, show 0 + (1 * 20 + j) = 20 + j by omega, List.getElem?_append_right (by show 20 ≤ 20 + j; omega)]
      congr 1
      show 20 + j - 20 = j
      omega
  · rw [List.mem_singleton.1 hx]; exact d34_wf s hs
  · rw [hblk hd]
    have hi2 : i < 1 := hi
    match i, hi2 with
    | 0, _ =>
      show (d34 s).cells.toArray[0 + (0 * 7 + j)]? = (d34 s).cells[j]?
      rw [List.getElem?_toArray, show 0 + (0 * 7 + j) = j by omega]
theorem ord5 {a d : Nat} {O : List En} (h : IsOrd (HC.pts (h34 a d 5).cs) (HD.sts (h34 a d 5).ds) O) : O = [⟨3, 0, -1⟩, ⟨5, -1, 0⟩, ⟨6, 1, -1⟩] := by
  refine h.unique ⟨?_, ?_⟩
  · show List.Perm _ ([⟨3, 0, -1⟩, ⟨6, 1, -1⟩, ⟨5, -1, 0⟩] : List En)
    exact List.Perm.cons _ (List.Perm.swap _ _ _)
  · simp [ETL, TL, List.pairwise_cons]
theorem ord6 {a d : Nat} {O : List En} (h : IsOrd (HC.pts (h34 a d 6).cs) (HD.sts (h34 a d 6).ds) O) : O = [⟨3, 0, -1⟩, ⟨6, 1, -1⟩, ⟨6, -1, 0⟩] := by
  refine h.unique ⟨?_, ?_⟩
  · exact List.Perm.refl _
  · simp [ETL, TL, List.pairwise_cons, En.rk]
theorem cw34 (a d : Nat) (s : Int) : CwOk (cws (h34 a d s).cs) := by
  refine ⟨fun c hc => ?_, ?_⟩
  · have hc : c ∈ [x34a.cw, x34b.cw] := hc
    rcases List.mem_cons.1 hc with rfl | hc
    · unfold Cw.ok; decide
    · rw [List.mem_singleton.1 hc]; unfold Cw.ok; decide
  · show List.Pairwise _ [x34a.cw, x34b.cw]
    refine List.pairwise_cons.2 ⟨fun c hc hcc => ?_, List.pairwise_singleton _ _⟩
    rw [List.mem_singleton.1 hc] at hcc
    exact absurd hcc (by decide)
theorem well5 (a d : Nat) : Wel (cws (h34 a d 5).cs) (HD.sts (h34 a d 5).ds) := ⟨cw34 a d 5, by show List.Nodup [3, 6, 5]; decide⟩
theorem well6 (a d : Nat) : ¬ Wel (cws (h34 a d 6).cs) (HD.sts (h34 a d 6).ds) := fun h => absurd h.2 (by show ¬ List.Nodup [3, 6, 6]; decide)
set_option maxRecDepth 100000 in
set_option maxHeartbeats 4000000 in
theorem lives34 (w : World) : Calls Try.prog 7 #[] w fun e w' => e = .returned (.bool true) ∧ Below w.heap.size w w' := by
  go_enter Try.func7, Try.ntmps7
  go_upto_region 2 with (fail)
  change Code.wp _ _ _ _ (((w.alloc (.cells (x34a.cells ++ x34b.cells).toArray 57)).alloc (.cells (d34 5).cells.toArray 62)).alloc (.cells (h34 w.heap.size (w.heap.size + 1) 5).cells 25))
  obtain ⟨a, ha⟩ : ∃ a, a = w.heap.size := ⟨_, rfl⟩
  obtain ⟨d, hd⟩ : ∃ d, d = w.heap.size + 1 := ⟨_, rfl⟩
  have b1 := hballoc w (.cells (x34a.cells ++ x34b.cells).toArray 57)
  have z1 := heap_alloc_new w (.cells (x34a.cells ++ x34b.cells).toArray 57)
  have s1 : (w.alloc (.cells (x34a.cells ++ x34b.cells).toArray 57)).heap.size = w.heap.size + 1 := by simp
  generalize w.alloc (.cells (x34a.cells ++ x34b.cells).toArray 57) = w1 at *
  have b2 := hballoc w1 (.cells (d34 5).cells.toArray 62)
  have z2 := heap_alloc_new w1 (.cells (d34 5).cells.toArray 62)
  have s2 : (w1.alloc (.cells (d34 5).cells.toArray 62)).heap.size = w.heap.size + 1 + 1 := by simp [s1]
  generalize w1.alloc (.cells (d34 5).cells.toArray 62) = w2 at *
  rw [s1, ← hd] at z2
  rw [← ha] at z1
  rw [← hd, ← ha]
  have b3 := hballoc w2 (.cells (h34 a d 5).cells 25)
  have z3 := heap_alloc_new w2 (.cells (h34 a d 5).cells 25)
  rw [s2, ← hd] at z3
  obtain ⟨q, hq⟩ : ∃ q, q = d + 1 := ⟨_, rfl⟩
  rw [← hq] at z3 ⊢
  generalize w2.alloc (.cells (h34 a d 5).cells 25) = w3 at *
  have za := (b3.block _ (Array.getElem?_eq_some_iff.1 ((b2.block _ (Array.getElem?_eq_some_iff.1 z1).1).trans z1)).1).trans ((b2.block _ (Array.getElem?_eq_some_iff.1 z1).1).trans z1)
  have zd := (b3.block _ (Array.getElem?_eq_some_iff.1 z2).1).trans z2
  have B3 := Lib.hid ((b1.trans (b2.mono b1.size)).trans (b3.mono (b1.trans (b2.mono b1.size)).size))
  have R5 := Lib.hid (h34_rd (a := a) (d := d) (s := 5) (by decide) za zd)
  have ZA := Lib.hid za; have ZD := Lib.hid zd; have ZQ := Lib.hid z3
  have HLO := Lib.hid (show w.heap.size ≤ d by omega)
  have HQD := Lib.hid (show q ≠ d by omega)
  have HAD := Lib.hid (show a ≠ d by omega)
  have p0 : w3.cell? ⟨q, 0, none⟩ = some (.slice (some ⟨a, 0, none⟩) 2 2) := hblk z3 0
  have p1 : w3.cell? ⟨q, 1, none⟩ = some (.slice (some ⟨d, 0, none⟩) 1 1) := hblk z3 1
  have hord := order_any (h34 a d 5) w3 R5.out (by show 2 ≤ 120; decide) (by show 1 ≤ 60; decide)
  have HD3 := Lib.hid (show d < w3.heap.size from (Array.getElem?_eq_some_iff.1 ZD.out).1)
  clear b1 b2 b3 z1 z2 z3 za zd s1 s2 hq hd ha
  go_upto_region 3 with (go_at_call 10; refine hord.mono ?_; rintro e w4 ⟨v, O, rfl, he, ho, hb4⟩; obtain rfl := ord5 ho; obtain ⟨oa, rfl, -⟩ := he.sl; have HE4 := Lib.hid he; have B4 := Lib.hid hb4; clear he ho hb4 hord p0 p1)
  have z4 := (B4.out.block _ (Array.getElem?_eq_some_iff.1 ZQ.out).1).trans ZQ.out
  have p0 : w4.cell? ⟨q, 0, none⟩ = some (.slice (some ⟨a, 0, none⟩) 2 2) := hblk z4 0
  have p1 : w4.cell? ⟨q, 1, none⟩ = some (.slice (some ⟨d, 0, none⟩) 1 1) := hblk z4 1
  have hwl := well_any (h34 a d 5) w4 (R5.out.below B4.out) (by show 2 ≤ 120; decide) (by show 1 ≤ 60; decide)
  clear z4
  go_upto_region 4 with (go_at_call 14; refine hwl.mono ?_; rintro e w5 ⟨g, rfl, hb5, hg⟩; obtain rfl := hg.2 (well5 a d); have HE5 := Lib.hid (HE4.out.below hb5); have B5 := Lib.hid (B4.out.trans (hb5.mono B4.out.size)); clear hg hb5 hwl p0 p1)
  have z5 := (B5.out.block _ (Array.getElem?_eq_some_iff.1 ZQ.out).1).trans ZQ.out
  have y5 := (B5.out.block _ (Array.getElem?_eq_some_iff.1 ZD.out).1).trans ZD.out
  have x5 := (B5.out.block _ (Array.getElem?_eq_some_iff.1 ZA.out).1).trans ZA.out
  have p1 : w5.cell? ⟨q, 1, none⟩ = some (.slice (some ⟨d, 0, none⟩) 1 1) := hblk z5 1
  have r0 : w5.cell? ⟨d, 0, none⟩ = some (.int .i64 5) := hblk y5 0
  have r1 : w5.frozen? ⟨d, 0, none⟩ = false := hbfz y5 0
  have hk6 := setCell_keeps w5 d 0 (.int .i64 6)
  have y6 : (w5.setCell ⟨d, 0, none⟩ (.int .i64 6)).heap[d]? = some (.cells (d34 6).cells.toArray 62 (0, 0)) := (setCell_same y5 0 (.int .i64 6)).trans rfl
  have z6 := (hk6.block q (Array.getElem?_eq_some_iff.1 z5).1 HQD.out).trans z5
  have x6 := (hk6.block a (Array.getElem?_eq_some_iff.1 x5).1 HAD.out).trans x5
  have HE6 := Lib.hid (HE5.out.keep hk6 HD3.out)
  have hb6 := keeps_below hk6 (B3.out.trans (B5.out.mono B3.out.size)) (Nat.le_trans B3.out.size B5.out.size) (fun j hj => by have := HLO.out; omega)
  have HB6 := Lib.hid hb6; have Y6 := Lib.hid y6; have Z6 := Lib.hid z6; have X6 := Lib.hid x6
  clear z5 y5 x5 hk6 y6 z6 x6 hb6 B5 B4 HE4 HE5
  go_upto_region 5 with (fail)
  generalize w5.setCell ⟨d, 0, none⟩ (.int .i64 6) = w6 at *
  clear p1 r0 r1
  have R6 := Lib.hid (h34_rd (a := a) (d := d) (s := 6) (by decide) X6.out Y6.out)
  have p0 : w6.cell? ⟨q, 0, none⟩ = some (.slice (some ⟨a, 0, none⟩) 2 2) := hblk Z6.out 0
  have p1 : w6.cell? ⟨q, 1, none⟩ = some (.slice (some ⟨d, 0, none⟩) 1 1) := hblk Z6.out 1
  have hord := order_any (h34 a d 6) w6 R6.out (by show 2 ≤ 120; decide) (by show 1 ≤ 60; decide)
  go_upto_region 6 with (go_at_call 10; refine hord.mono ?_; rintro e w7 ⟨v, O, rfl, he, ho, hb7⟩; obtain rfl := ord6 ho; obtain ⟨ob, rfl, -⟩ := he.sl; have HE7 := Lib.hid he; have B7 := Lib.hid hb7; clear he ho hb7 hord p0 p1)
  have z7 := (B7.out.block _ (Array.getElem?_eq_some_iff.1 Z6.out).1).trans Z6.out
  have p0 : w7.cell? ⟨q, 0, none⟩ = some (.slice (some ⟨a, 0, none⟩) 2 2) := hblk z7 0
  have p1 : w7.cell? ⟨q, 1, none⟩ = some (.slice (some ⟨d, 0, none⟩) 1 1) := hblk z7 1
  have hwl : Calls Try.prog 14 #[.agg #[.slice (some ⟨a, 0, none⟩) 2 2, .slice (some ⟨d, 0, none⟩) 1 1]] w7 fun e w' => e = .returned (.bool false) ∧ Below w7.heap.size w7 w' := (well_any (h34 a d 6) w7 (R6.out.below B7.out) (by show 2 ≤ 120; decide) (by show 1 ≤ 60; decide)).mono fun e w' ⟨g, h1, h2, h3⟩ => ⟨by cases g; exact h1; exact absurd (h3.1 rfl) (well6 a d), h2⟩
  have key : ∀ w8, Below w7.heap.size w7 w8 → ∃ g1 g4, oa = some ⟨g1, 0, none⟩ ∧ ob = some ⟨g4, 0, none⟩ ∧
      (w8.cell? ⟨g1, 0, none⟩ = some (.int .i64 3) ∧ w8.cell? ⟨g1, 1, none⟩ = some (.int .i64 0) ∧ w8.cell? ⟨g1, 2, none⟩ = some (.int .i64 (-1))) ∧
      (w8.cell? ⟨g1, 3, none⟩ = some (.int .i64 5) ∧ w8.cell? ⟨g1, 4, none⟩ = some (.int .i64 (-1)) ∧ w8.cell? ⟨g1, 5, none⟩ = some (.int .i64 0)) ∧
      (w8.cell? ⟨g1, 6, none⟩ = some (.int .i64 6) ∧ w8.cell? ⟨g1, 7, none⟩ = some (.int .i64 1) ∧ w8.cell? ⟨g1, 8, none⟩ = some (.int .i64 (-1))) ∧
      w8.cell? ⟨g4, 4, none⟩ = some (.int .i64 1) := fun w8 hb8 => by
    have el := (HE6.out.below B7.out).below hb8
    obtain ⟨g1, f1, ha1, hf1, l0, l1, l2⟩ := el.at 0 (by decide)
    obtain ⟨g2, f2, ha2, hf2, l3, l4, l5⟩ := el.at 1 (by decide)
    obtain ⟨g3, f3, ha3, hf3, l6, l7, l8⟩ := el.at 2 (by decide)
    obtain ⟨g4, f4, ha4, hf4, l9, l10, l11⟩ := (HE7.out.below hb8).at 1 (by decide)
    subst ha1
    simp only [Option.some.injEq, Addr.mk.injEq, and_true] at ha2 ha3
    subst ha2 ha3
    cases hf1; cases hf2; cases hf3; cases hf4
    exact ⟨_, _, rfl, ha4, ⟨l0, l1, l2⟩, ⟨l3, l4, l5⟩, ⟨l6, l7, l8⟩, l10⟩
  have KEY := Lib.hid key
  have HB7 := Lib.hid (HB6.out.trans (B7.out.mono HB6.out.size))
  clear key z7
  go_wp2_with (go_at_call 14; refine hwl.mono ?_; rintro e w8 ⟨rfl, hb8⟩; obtain ⟨g1, g4, rfl, rfl, ⟨l0, l1, l2⟩, ⟨l3, l4, l5⟩, ⟨l6, l7, l8⟩, l10⟩ := KEY.out w8 hb8; have HB8 := Lib.hid (HB7.out.trans (hb8.mono HB7.out.size)); clear hb8 hwl)
  go_ret
  exact ⟨rfl, HB8.out⟩
end Go.Proofs.Ytmagpbbjjkmbpaa
