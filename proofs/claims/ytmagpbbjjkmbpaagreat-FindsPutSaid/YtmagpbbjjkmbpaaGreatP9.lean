/-
  Texts of this prover, merged: Puts, PutsDo, PutsAll, PutsLives, PutsEx, Spots, Grows, GrowDo, GrowLives.
-/
import Derived.Test.YtmagpbbjjkmbpaaGreatP7
import Derived.Test.YtmagpbbjjkmbpaaGreatAddr
import Derived.Test.YtmagpbbjjkmbpaaGreatSegs
import Derived.Test.YtmagpbbjjkmbpaaGreatPlacesMay
import Derived.Test.YtmagpbbjjkmbpaaGreatP1
import Derived.Test.YtmagpbbjjkmbpaaGreatBegin0
import Derived.Maps.RangeWalk
/-
  Puts and Outs of a slot: their beginnings, their lines.
-/
namespace Go.Proofs.YtmagpbbjjkmbpaaGreat
open Go.RowKit
set_option linter.unusedVariables false

/-- A slot that is changed. -/
structure SL where
  tg : Int
  it : Int
  at_ : Int
  x : Int
  ln : Int
abbrev SL.cs (s : SL) (rest : List Value) : Array Value := (Value.int .u64 s.tg :: .int .u64 s.it :: .int .i64 s.at_ :: .int .u64 s.x :: .int .i64 s.ln :: rest).toArray
def SlotAt (w : World) (b : Nat) (T : TypeId) (s : SL) (rest : List Value) : Prop := w.heap[b]? = some (.cells (s.cs rest) T (0, 0))
section
variable {w w' : World} {b : Nat} {T : TypeId} {s : SL} {rest : List Value} (h : SlotAt w b T s rest)
include h
theorem SlotAt.lt : b < w.heap.size := (Array.getElem?_eq_some_iff.1 h).1
theorem SlotAt.below (hb : Below w.heap.size w w') : SlotAt w' b T s rest := (hb.block _ h.lt).trans h
theorem SlotAt.c0 : w.cell? ⟨b, 0, none⟩ = some (.int .u64 s.tg) := by rw [hcell h 0]; simp
theorem SlotAt.c1 : w.cell? ⟨b, 1, none⟩ = some (.int .u64 s.it) := by rw [hcell h 1]; simp
theorem SlotAt.c2 : w.cell? ⟨b, 2, none⟩ = some (.int .i64 s.at_) := by rw [hcell h 2]; simp
theorem SlotAt.c3 : w.cell? ⟨b, 3, none⟩ = some (.int .u64 s.x) := by rw [hcell h 3]; simp
theorem SlotAt.c4 : w.cell? ⟨b, 4, none⟩ = some (.int .i64 s.ln) := by rw [hcell h 4]; simp
theorem SlotAt.set3 (x : Int) : SlotAt (w.setCell ⟨b, 3, none⟩ (.int .u64 x)) b T { s with x := x } rest := by
  have := setCell_same h 3 (.int .u64 x)
  simpa [SlotAt, SL.cs] using this
theorem SlotAt.set4 (x : Int) : SlotAt (w.setCell ⟨b, 4, none⟩ (.int .i64 x)) b T { s with ln := x } rest := by
  have := setCell_same h 4 (.int .i64 x)
  simpa [SlotAt, SL.cs] using this
end
def sof (b u s : Int) : SL := if itemA b u s = 0 then ⟨0, 0, 0, 0, 0⟩ else ⟨tagsA b u, itemA b u s, s, 0, 0⟩
abbrev SL.agg (s : SL) : Value := .agg #[.int .u64 s.tg, .int .u64 s.it, .int .i64 s.at_, .int .u64 s.x, .int .i64 s.ln]
theorem box5s (w : World) (a b c d e : Value) (T : TypeId) : ∀ o, (w.alloc (.cells #[a, b, c, d, e] T)).cell? ⟨w.heap.size, o, none⟩ = (#[a, b, c, d, e] : Array Value)[o]? := fun o => by
  have := heap_alloc_new w (.cells #[a, b, c, d, e] T)
  unfold World.cell?; simp only; rw [this]; rfl

theorem sfive_below {w w1 : World} {q : Nat} {v0 v1 v2 v3 v4 : Value} (h : Below w.heap.size w w1) (hq : w.heap.size ≤ q) : Below w.heap.size w (((((w1.setCell ⟨q, 0, none⟩ v0).setCell ⟨q, 1, none⟩ v1).setCell ⟨q, 2, none⟩ v2).setCell ⟨q, 3, none⟩ v3).setCell ⟨q, 4, none⟩ v4) :=
  below_set (below_set (below_set (below_set (below_set h hq) hq) hq) hq) hq
theorem sfive_set {w1 : World} {q : Nat} {a b c d e : Value} {T : TypeId} (h : w1.heap[q]? = some (.cells #[a, b, c, d, e] T (0, 0))) (v0 v1 v2 v3 v4 : Value) :
    (((((w1.setCell ⟨q, 0, none⟩ v0).setCell ⟨q, 1, none⟩ v1).setCell ⟨q, 2, none⟩ v2).setCell ⟨q, 3, none⟩ v3).setCell ⟨q, 4, none⟩ v4).heap[q]? = some (.cells #[v0, v1, v2, v3, v4] T (0, 0)) :=
  setCell_same (setCell_same (setCell_same (setCell_same (setCell_same h 0 v0) 1 v1) 2 v2) 3 v3) 4 v4
set_option maxRecDepth 10000 in
set_option maxHeartbeats 1000000 in
theorem pof_any (b u s : Int) (hs : (Lit.int .i64 s).wf = true) (w : World) : Calls Tryz.prog 85 #[.agg #[.int .i64 b, .int .i64 u, .int .i64 s]] w fun e w' => e = .returned (sof b u s).agg ∧ Below w.heap.size w w' := by
  have hit := fun w => item_any b u s hs w
  have hitx := fun {w : World} (st : ExtW w) => item_any b u s hs st.val
  have htg := fun {w : World} (st : ExtW w) => tags_any b u st.val
  have hB1 : Below w.heap.size w ((w.alloc (.cells #[.int .i64 b, .int .i64 u, .int .i64 s] 43)).alloc (.cells #[.int .u64 0, .int .u64 0, .int .i64 0, .int .u64 0, .int .i64 0] 217)) :=
    bnext (below_alloc w _) (below_alloc _ _)
  have hz : ∀ o, ((w.alloc (.cells #[.int .i64 b, .int .i64 u, .int .i64 s] 43)).alloc (.cells #[.int .u64 0, .int .u64 0, .int .i64 0, .int .u64 0, .int .i64 0] 217)).cell? ⟨w.heap.size, o, none⟩ = (#[.int .i64 b, .int .i64 u, .int .i64 s] : Array Value)[o]? := fun o =>
    ((below_alloc _ _).cell (p := ⟨w.heap.size, o, none⟩) (by simp)).trans (box3 w b u s _ o)
  have hq : ((w.alloc (.cells #[.int .i64 b, .int .i64 u, .int .i64 s] 43)).alloc (.cells #[.int .u64 0, .int .u64 0, .int .i64 0, .int .u64 0, .int .i64 0] 217)).heap[w.heap.size + 1]? = some (.cells #[.int .u64 0, .int .u64 0, .int .i64 0, .int .u64 0, .int .i64 0] 217 (0, 0)) := by
    simpa using heap_alloc_new (w.alloc (.cells #[.int .i64 b, .int .i64 u, .int .i64 s] 43)) (.cells #[.int .u64 0, .int .u64 0, .int .i64 0, .int .u64 0, .int .i64 0] 217)
  have hsz : ((w.alloc (.cells #[.int .i64 b, .int .i64 u, .int .i64 s] 43)).alloc (.cells #[.int .u64 0, .int .u64 0, .int .i64 0, .int .u64 0, .int .i64 0] 217)).heap.size = w.heap.size + 2 := by simp
  have hZ := Lib.hid hz; have HQ := Lib.hid hq; have HB1 := Lib.hid hB1; have HSZ := Lib.hid hsz
  clear hz hq hB1 hsz
  unfold sof
  cases h0 : (itemA b u s == 0)
  · rw [if_neg (beq_eq_false_iff_ne.1 h0)]
    generalize itemA b u s = I at *
    generalize tagsA b u = G at *
    go_enter Tryz.func85, Tryz.ntmps85
    go_upto_region 3 with (go_at_call 135; refine (hit _).mono ?_; rintro e w1 ⟨rfl, b1⟩; have hq1 := (b1.block _ (by rw [HSZ.out]; omega)).trans HQ.out; have hz0 := (b1.cell (p := ⟨w.heap.size, 0, none⟩) (by rw [HSZ.out]; show w.heap.size < _; omega)).trans (hZ.out 0); have hz1 := (b1.cell (p := ⟨w.heap.size, 1, none⟩) (by rw [HSZ.out]; show w.heap.size < _; omega)).trans (hZ.out 1); have hz2 := (b1.cell (p := ⟨w.heap.size, 2, none⟩) (by rw [HSZ.out]; show w.heap.size < _; omega)).trans (hZ.out 2); have HB2 := Lib.hid (HB1.out.trans (b1.mono HB1.out.size)); clear b1)
    have x0 := fun st : ExtW w1 => st.cell hz0
    have x1 := fun st : ExtW w1 => st.cell hz1
    have x2 := fun st : ExtW w1 => st.cell hz2
    have HQ1 := Lib.hid hq1
    clear hz0 hz1 hz2 hq1 hit
    refine wp_region_ext_tail 8 (by kernel_rfl) (by kernel_rfl) ?_
    simp only [List.take_succ_cons, List.take_zero, List.drop_succ_cons, List.drop_zero]
    repeat (go_big_quiet_step (first | (go_at_call 135; with_reducible refine calls_ext (hitx _)) | (go_at_call 134; with_reducible refine calls_ext (htg _))))
    refine wpQuiet_nil ?_
    rintro W ⟨⟨W2, hW⟩, rfl⟩
    have hq1 := (hW.block _ (Array.getElem?_eq_some_iff.1 HQ1.out).1).trans HQ1.out
    have y0 := hcell hq1 0; have y1 := hcell hq1 1; have y2 := hcell hq1 2; have y3 := hcell hq1 3; have y4 := hcell hq1 4
    have yf := hfrz hq1
    have HW := Lib.hid (HB2.out.trans (hW.mono HB2.out.size))
    have hq5 := sfive_set hq1 (.int .u64 G) (.int .u64 I) (.int .i64 s) (.int .u64 0) (.int .i64 0)
    have hB5 := sfive_below (v0 := .int .u64 G) (v1 := .int .u64 I) (v2 := .int .i64 s) (v3 := .int .u64 0) (v4 := .int .i64 0) HW.out (show w.heap.size ≤ w.heap.size + 1 by omega)
    clear x0 x1 x2 hW hq1
    go_wp2
    generalize World.setCell _ _ _ = W5 at *
    have k0 := hcell hq5 0; have k1 := hcell hq5 1; have k2 := hcell hq5 2; have k3 := hcell hq5 3; have k4 := hcell hq5 4
    simp only [List.getElem?_toArray, List.getElem?_cons_zero, List.getElem?_cons_succ] at k0 k1 k2 k3 k4
    refine bodyPost_ret (v := .agg #[_, _, _, _, _]) (by simp [results, Tryz.results85, go_sem, k0, k1, k2, k3, k4]) rfl ⟨rfl, hB5⟩
  · rw [if_pos (beq_iff_eq.1 h0)]
    rw [beq_iff_eq.1 h0] at hit
    clear hitx htg h0
    go_enter Tryz.func85, Tryz.ntmps85
    go_wp2_with (go_at_call 135; refine (hit _).mono ?_; rintro e w1 ⟨rfl, b1⟩; have hq1 := (b1.block _ (by rw [HSZ.out]; omega)).trans HQ.out; have y0 := hcell hq1 0; have y1 := hcell hq1 1; have y2 := hcell hq1 2; have y3 := hcell hq1 3; have y4 := hcell hq1 4; have yf := hfrz hq1; have hq5 := sfive_set hq1 (.int .u64 0) (.int .u64 0) (.int .i64 0) (.int .u64 0) (.int .i64 0); have hB5 := sfive_below (v0 := .int .u64 0) (v1 := .int .u64 0) (v2 := .int .i64 0) (v3 := .int .u64 0) (v4 := .int .i64 0) (HB1.out.trans (b1.mono HB1.out.size)) (show w.heap.size ≤ w.heap.size + 1 by omega); clear hq1 b1)
    generalize World.setCell _ _ _ = W5 at *
    have k0 := hcell hq5 0; have k1 := hcell hq5 1; have k2 := hcell hq5 2; have k3 := hcell hq5 3; have k4 := hcell hq5 4
    simp only [List.getElem?_toArray, List.getElem?_cons_zero, List.getElem?_cons_succ] at k0 k1 k2 k3 k4
    refine bodyPost_ret (v := .agg #[_, _, _, _, _]) (by simp [results, Tryz.results85, go_sem, k0, k1, k2, k3, k4]) rfl ⟨rfl, hB5⟩

theorem newput_in (b u s g r : Int) (hs : (Lit.int .i64 s).wf = true) (hg : 1 ≤ g ∧ g ≤ 255) (hr : 1 ≤ r) (w : World) : Calls Tryz.prog 25 #[.agg #[.int .i64 b, .int .i64 u, .int .i64 s], .int .i64 g, .int .i64 r] w
    fun e w' => ∃ q, e = .returned (.pointer (some ⟨q, 0, none⟩)) ∧ SlotAt w' q 219 (sof b u s) [.int .i64 g, .int .i64 r] ∧ w.heap.size ≤ q ∧ Below w.heap.size w w' := by
  have ho := fun w => pof_any b u s hs w
  have h1 : decide (g < 1) = false := by simp; omega
  have h2 : decide (255 < g) = false := by simp; omega
  have h3 : decide (r < 1) = false := by simp; omega
  clear hg hr
  go_enter Tryz.func25, Tryz.ntmps25
  go_wp2_with (go_at_call 85; refine (ho _).mono ?_; rintro e w1 ⟨rfl, b1⟩)
  go_ret
  have hB1 := bnext (below_alloc w _) b1
  exact ⟨_, rfl, heap_alloc_new w1 _, hB1.size, bnext hB1 (below_alloc w1 _)⟩
theorem newout_any (b u s : Int) (hs : (Lit.int .i64 s).wf = true) (w : World) : Calls Tryz.prog 29 #[.agg #[.int .i64 b, .int .i64 u, .int .i64 s]] w
    fun e w' => ∃ q, e = .returned (.pointer (some ⟨q, 0, none⟩)) ∧ SlotAt w' q 226 (sof b u s) [] ∧ w.heap.size ≤ q ∧ Below w.heap.size w w' := by
  have ho := fun w => pof_any b u s hs w
  go_enter Tryz.func29, Tryz.ntmps29
  go_wp2_with (go_at_call 85; refine (ho _).mono ?_; rintro e w1 ⟨rfl, b1⟩)
  go_ret
  have hB1 := bnext (below_alloc w _) b1
  exact ⟨_, rfl, heap_alloc_new w1 _, hB1.size, bnext hB1 (below_alloc w1 _)⟩

section
variable {w0 w : World} {B : WB} {V : WV} {s : CS} {b : Nat} {T : TypeId} {σ : SL} {rest : List Value} (h : WS w0 w B V s) (hr : s.room) (hS : SlotAt w b T σ rest) (hT : wTy T = false) (hlo : w0.heap.size ≤ b) (hg : (Lit.int .u64 σ.tg).wf = true)
include h hr hS hT hlo hg
set_option maxRecDepth 10000 in
set_option maxHeartbeats 1000000 in
theorem slot_load : Calls Tryz.prog 250 #[.pointer (some ⟨b, 0, none⟩), .pointer (some ⟨B.wb, 0, none⟩)] w fun e w' => e = .returned (.tuple #[]) ∧ WS w0 w' B V (s.acc 1 σ.tg (s.val σ.tg)) ∧ SlotAt w' b T { σ with x := s.val σ.tg } rest ∧ Fx wTy true b w w' := by
  have hld : ∀ W, Below w.heap.size w W → Calls Tryz.prog 143 #[.pointer (some ⟨B.cb, 0, none⟩), .int .u64 σ.tg] W fun e w' => e = .returned (.int .u64 (s.val σ.tg)) ∧ WS w0 w' B V (s.acc 1 σ.tg (s.val σ.tg)) ∧ Fr wTy true W w' := fun W hW => (h.keep hW).load hr _ hg
  have hd0 := h.keep (Below.refl w.heap.size w).drew
  have y0 : w.drew.cell? ⟨B.wb, 0, none⟩ = some (.pointer (some ⟨B.cb, 0, none⟩)) := hd0.c0
  have y1 : w.drew.cell? ⟨b, 0, none⟩ = some (.int .u64 σ.tg) := SlotAt.c0 (w := w.drew) hS
  have hlw := hld w.drew (Below.refl w.heap.size w).drew
  have HS := Lib.hid hS
  clear hd0 h hr hS hg hld
  go_enter Tryz.func250, Tryz.ntmps250
  go_wp2_with fail
  go_region_with (go_at_call 143; refine hlw.mono ?_; rintro e w2 ⟨rfl, h2, f2⟩; have hs2 : SlotAt w2 b T σ rest := f2.cells _ _ _ _ HS.out hT; have z3 := hs2.c3; have zf := hfrz hs2 3; have H2 := Lib.hid h2; have F2 := Lib.hid f2; have HS2 := Lib.hid hs2; clear h2 f2 hs2 y0 y1 hlw)
  all_goals go_wp2
  all_goals go_end0
  all_goals exact ⟨rfl, set_take (o := 3) H2.out HS2.out hT hlo _, HS2.out.set3 _, (show Fx wTy true b w w2 from ⟨F2.out.size, fun k cs T fr h1 h2 _ => F2.out.cells k cs T fr h1 h2, fun h => by cases h⟩).trans (set_fx _ _ _ _ _ _)⟩
omit hT hlo in
set_option maxRecDepth 10000 in
set_option maxHeartbeats 1000000 in
theorem slot_store (g : Int) (hx : 0 ≤ σ.x ∧ σ.x < 18446744073709551616) : Calls Tryz.prog 251 #[.pointer (some ⟨b, 0, none⟩), .pointer (some ⟨B.wb, 0, none⟩), .int .i64 g] w fun e w' => e = .returned (.tuple #[]) ∧ WS w0 w' B V (s.acc 2 σ.tg (TagPure.withOf σ.x σ.at_ g)) ∧ Fr wTy true w w' := by
  have hst : ∀ W, Below w.heap.size w W → Calls Tryz.prog 87 #[.pointer (some ⟨B.cb, 0, none⟩), .int .u64 σ.tg, .int .u64 (TagPure.withOf σ.x σ.at_ g)] W fun e w' => e = .returned (.int .u64 (s.val σ.tg)) ∧ WS w0 w' B V (s.acc 2 σ.tg (TagPure.withOf σ.x σ.at_ g)) ∧ Fr wTy true W w' := fun W hW => (h.keep hW).store hr _ hg _ (withOf_wf _ _ _ hx.1 hx.2)
  have hwx := fun {w : World} (st : ExtW w) => with_any σ.x σ.at_ g st.val hx.1 hx.2
  have x0 := fun st : ExtW w => st.cell h.c0
  have x1 := fun st : ExtW w => st.cell hS.c0
  have x2 := fun st : ExtW w => st.cell hS.c2
  have x3 := fun st : ExtW w => st.cell hS.c3
  have HST := Lib.hid hst
  clear h hr hS hg hst hx
  go_enter Tryz.func251, Tryz.ntmps251
  go_wp2_with fail
  refine wp_region_ext_tail 18 (by kernel_rfl) (by kernel_rfl) ?_
  simp only [List.take_succ_cons, List.take_zero, List.drop_succ_cons, List.drop_zero]
  repeat (go_big_quiet_step ((go_at_call 252; with_reducible refine calls_ext (hwx _))))
  refine wpQuiet_nil ?_
  rintro W ⟨⟨W2, hW⟩, rfl⟩
  have hsw := HST.out _ hW
  have HW := Lib.hid hW
  clear x0 x1 x2 x3 hwx hW
  go_wp2_with (go_at_call 87; refine hsw.mono ?_; rintro e w2 ⟨rfl, h2, f2⟩)
  go_end0
  exact ⟨rfl, h2, (below_fr HW.out wTy true).trans f2⟩
end
end Go.Proofs.YtmagpbbjjkmbpaaGreat

/-
  Puts and Outs: their lines, their steps.
-/
namespace Go.Proofs.YtmagpbbjjkmbpaaGreat
open Go.RowKit
set_option linter.unusedVariables false

theorem fr_fx {w w' : World} (b : Nat) (F : Fr wTy true w w') : Fx wTy true b w w' := ⟨F.size, fun k cs T fr h1 h2 _ => F.cells k cs T fr h1 h2, fun h => by cases h⟩
section
variable {w0 w : World} {B : WB} {V : WV} {s : CS} {b : Nat} {σ : SL} (h : WS w0 w B V s) (hr : s.room)
include h hr
set_option maxRecDepth 10000 in
set_option maxHeartbeats 1000000 in
theorem put_first {g r : Int} (hS : SlotAt w b 219 σ [.int .i64 g, .int .i64 r]) (hi : (Lit.int .u64 σ.it).wf = true) (hrr : 0 ≤ r ∧ r < 9223372036854775808) : Calls Tryz.prog 247 #[.pointer (some ⟨b, 0, none⟩), .pointer (some ⟨B.wb, 0, none⟩)] w fun e w' => e = .returned (.tuple #[]) ∧ WS w0 w' B V (s.acc 2 σ.it r) ∧ Fr wTy true w w' := by
  have e1 : IntKind.u64.wrap r = r := by rw [IntKind.wrap_u64]; omega
  have hst : ∀ W, Below w.heap.size w W → Calls Tryz.prog 87 #[.pointer (some ⟨B.cb, 0, none⟩), .int .u64 σ.it, .int .u64 r] W fun e w' => e = .returned (.int .u64 (s.val σ.it)) ∧ WS w0 w' B V (s.acc 2 σ.it r) ∧ Fr wTy true W w' := fun W hW => (h.keep hW).store hr _ hi _ (bd_wf (by omega))
  have x0 := fun st : ExtW w => st.cell h.c0
  have x1 := fun st : ExtW w => st.cell hS.c1
  have x6 : ∀ st : ExtW w, st.val.cell? ⟨b, 6, none⟩ = some (.int .i64 r) := fun st => st.cell (by rw [hcell hS 6]; rfl)
  have HST := Lib.hid hst
  clear h hr hS hi hst hrr
  go_enter Tryz.func247, Tryz.ntmps247
  go_wp2_with fail
  refine wp_region_ext_tail 14 (by kernel_rfl) (by kernel_rfl) ?_
  simp only [List.take_succ_cons, List.take_zero, List.drop_succ_cons, List.drop_zero]
  repeat (go_big_quiet_step (fail))
  refine wpQuiet_nil ?_
  rintro W ⟨⟨W2, hW⟩, rfl⟩
  have hsw := HST.out _ hW
  have HW := Lib.hid hW
  clear x0 x1 x6 hW
  go_wp2_with (go_at_call 87; refine hsw.mono ?_; rintro e w2 ⟨rfl, h2, f2⟩)
  go_end0
  exact ⟨rfl, h2, (below_fr HW.out wTy true).trans f2⟩
theorem put_second {rest : List Value} (hlo : w0.heap.size ≤ b) (hS : SlotAt w b 219 σ rest) (hg : (Lit.int .u64 σ.tg).wf = true) : Calls Tryz.prog 248 #[.pointer (some ⟨b, 0, none⟩), .pointer (some ⟨B.wb, 0, none⟩)] w fun e w' => e = .returned (.tuple #[]) ∧ WS w0 w' B V (s.acc 1 σ.tg (s.val σ.tg)) ∧ SlotAt w' b 219 { σ with x := s.val σ.tg } rest ∧ Fx wTy true b w w' := by
  have hl := slot_load h hr hS rfl hlo hg
  have y0 := hS.c0
  clear h hr hS hg
  go_enter Tryz.func248, Tryz.ntmps248
  go_wp2_with (go_at_call 250; refine hl.mono ?_; rintro e w2 ⟨rfl, h2⟩)
  go_end0
  exact ⟨rfl, h2⟩
theorem out_first {rest : List Value} (hlo : w0.heap.size ≤ b) (hS : SlotAt w b 226 σ rest) (hg : (Lit.int .u64 σ.tg).wf = true) : Calls Tryz.prog 257 #[.pointer (some ⟨b, 0, none⟩), .pointer (some ⟨B.wb, 0, none⟩)] w fun e w' => e = .returned (.tuple #[]) ∧ WS w0 w' B V (s.acc 1 σ.tg (s.val σ.tg)) ∧ SlotAt w' b 226 { σ with x := s.val σ.tg } rest ∧ Fx wTy true b w w' := by
  have hl := slot_load h hr hS rfl hlo hg
  have y0 := hS.c0
  clear h hr hS hg
  go_enter Tryz.func257, Tryz.ntmps257
  go_wp2_with (go_at_call 250; refine hl.mono ?_; rintro e w2 ⟨rfl, h2⟩)
  go_end0
  exact ⟨rfl, h2⟩
theorem out_second {rest : List Value} (hS : SlotAt w b 226 σ rest) (hg : (Lit.int .u64 σ.tg).wf = true) (hx : 0 ≤ σ.x ∧ σ.x < 18446744073709551616) : Calls Tryz.prog 258 #[.pointer (some ⟨b, 0, none⟩), .pointer (some ⟨B.wb, 0, none⟩)] w fun e w' => e = .returned (.tuple #[]) ∧ WS w0 w' B V (s.acc 2 σ.tg (TagPure.withOf σ.x σ.at_ 0)) ∧ Fr wTy true w w' := by
  have hl := slot_store h hr hS hg 0 hx
  have y0 := hS.c0
  clear h hr hS hg hx
  go_enter Tryz.func258, Tryz.ntmps258
  go_wp2_with (go_at_call 251; refine hl.mono ?_; rintro e w2 ⟨rfl, h2⟩)
  go_end0
  exact ⟨rfl, h2⟩
set_option maxRecDepth 10000 in
set_option maxHeartbeats 1000000 in
theorem put_third {g r : Int} (hS : SlotAt w b 219 σ [.int .i64 g, .int .i64 r]) (hg : (Lit.int .u64 σ.tg).wf = true) (hx : 0 ≤ σ.x ∧ σ.x < 18446744073709551616) : Calls Tryz.prog 249 #[.pointer (some ⟨b, 0, none⟩), .pointer (some ⟨B.wb, 0, none⟩)] w fun e w' => e = .returned (.tuple #[]) ∧ WS w0 w' B V (s.acc 2 σ.tg (TagPure.withOf σ.x σ.at_ g)) ∧ Fr wTy true w w' := by
  have hl : ∀ W, Below w.heap.size w W → Calls Tryz.prog 251 #[.pointer (some ⟨b, 0, none⟩), .pointer (some ⟨B.wb, 0, none⟩), .int .i64 g] W fun e w' => e = .returned (.tuple #[]) ∧ WS w0 w' B V (s.acc 2 σ.tg (TagPure.withOf σ.x σ.at_ g)) ∧ Fr wTy true W w' := fun W hW => slot_store (h.keep hW) hr (hS.below hW) hg g hx
  have x0 := fun st : ExtW w => st.cell hS.c0
  have x5 : ∀ st : ExtW w, st.val.cell? ⟨b, 5, none⟩ = some (.int .i64 g) := fun st => st.cell (by rw [hcell hS 5]; rfl)
  have HL := Lib.hid hl
  clear h hr hS hg hx hl
  go_enter Tryz.func249, Tryz.ntmps249
  go_wp2_with fail
  refine wp_region_ext_tail 8 (by kernel_rfl) (by kernel_rfl) ?_
  simp only [List.take_succ_cons, List.take_zero, List.drop_succ_cons, List.drop_zero]
  repeat (go_big_quiet_step (fail))
  refine wpQuiet_nil ?_
  rintro W ⟨⟨W2, hW⟩, rfl⟩
  have hsw := HL.out _ hW
  have HW := Lib.hid hW
  clear x0 x5 hW
  go_wp2_with (go_at_call 251; refine hsw.mono ?_; rintro e w2 ⟨rfl, h2, f2⟩)
  go_end0
  exact ⟨rfl, h2, (below_fr HW.out wTy true).trans f2⟩
set_option maxRecDepth 10000 in
set_option maxHeartbeats 1000000 in
theorem out_third {rest : List Value} (hS : SlotAt w b 226 σ rest) (hi : (Lit.int .u64 σ.it).wf = true) : Calls Tryz.prog 259 #[.pointer (some ⟨b, 0, none⟩), .pointer (some ⟨B.wb, 0, none⟩)] w fun e w' => e = .returned (.tuple #[]) ∧ WS w0 w' B V (s.acc 2 σ.it 0) ∧ Fr wTy true w w' := by
  have hst : ∀ W, Below w.heap.size w W → Calls Tryz.prog 87 #[.pointer (some ⟨B.cb, 0, none⟩), .int .u64 σ.it, .int .u64 0] W fun e w' => e = .returned (.int .u64 (s.val σ.it)) ∧ WS w0 w' B V (s.acc 2 σ.it 0) ∧ Fr wTy true W w' := fun W hW => (h.keep hW).store hr _ hi _ (by decide)
  have x0 := fun st : ExtW w => st.cell h.c0
  have x00 := fun st : ExtW w => st.cell hS.c0
  have x1 := fun st : ExtW w => st.cell hS.c1
  have HST := Lib.hid hst
  clear h hr hS hi hst
  go_enter Tryz.func259, Tryz.ntmps259
  go_wp2_with fail
  refine wp_region_ext_tail 9 (by kernel_rfl) (by kernel_rfl) ?_
  simp only [List.take_succ_cons, List.take_zero, List.drop_succ_cons, List.drop_zero]
  repeat (go_big_quiet_step (fail))
  refine wpQuiet_nil ?_
  rintro W ⟨⟨W2, hW⟩, rfl⟩
  have hsw := HST.out _ hW
  have HW := Lib.hid hW
  clear x0 x00 x1 hW
  go_wp2_with (go_at_call 87; refine hsw.mono ?_; rintro e w2 ⟨rfl, h2, f2⟩)
  go_end0
  exact ⟨rfl, h2, (below_fr HW.out wTy true).trans f2⟩
end

abbrev fv (f : Fn) : Value := .func f #[] #[]

theorem puts_any (w : World) : Calls Tryz.prog 246 #[] w fun e w' => e = .returned (.agg #[fv (.func 247), fv (.func 248), fv (.func 249)]) ∧ Below w.heap.size w w' := by
  go_enter Tryz.func246, Tryz.ntmps246
  go_wp2
  refine bodyPost_ret (v := .agg #[fv (.func 247), fv (.func 248), fv (.func 249)]) (by simp [results, Tryz.results246, go_sem]) rfl ⟨rfl, ?_⟩
  exact below_alloc' _ _
set_option maxRecDepth 10000 in
theorem Putover {w : World} {b : Nat} {σ : SL} {rest : List Value} (hS : SlotAt w b 219 σ rest) (a c : Bool) (ha : (σ.tg == 0) = a) (hc : (σ.ln == 3) = c) : Calls Tryz.prog 244 #[.pointer (some ⟨b, 0, none⟩)] w fun e w' => e = .returned (.bool (a || c)) ∧ Below w.heap.size w w' := by
  have x0 := fun st : ExtW w => st.cell hS.c0
  have x4 := fun st : ExtW w => st.cell hS.c4
  have hp := fun {w : World} (st : ExtW w) => puts_any st.val
  clear hS
  cases a
  all_goals
    go_enter Tryz.func244, Tryz.ntmps244
    go_wp2_with fail
    refine wp_region_ext (by kernel_rfl) (by kernel_rfl) ?_
    repeat (go_big_quiet_step ((go_at_call 246; with_reducible refine calls_ext (hp _))))
    refine wpQuiet_nil ?_
    rintro W ⟨⟨W2, hW⟩, rfl⟩
    clear x0 x4
    go_wp2
    go_ret
    exact ⟨by simp, hW⟩

theorem outs_any (w : World) : Calls Tryz.prog 256 #[] w fun e w' => e = .returned (.agg #[fv (.func 257), fv (.func 258), fv (.func 259)]) ∧ Below w.heap.size w w' := by
  go_enter Tryz.func256, Tryz.ntmps256
  go_wp2
  refine bodyPost_ret (v := .agg #[fv (.func 257), fv (.func 258), fv (.func 259)]) (by simp [results, Tryz.results256, go_sem]) rfl ⟨rfl, ?_⟩
  exact below_alloc' _ _
set_option maxRecDepth 10000 in
theorem Outover {w : World} {b : Nat} {σ : SL} {rest : List Value} (hS : SlotAt w b 226 σ rest) (a c : Bool) (ha : (σ.tg == 0) = a) (hc : (σ.ln == 3) = c) : Calls Tryz.prog 254 #[.pointer (some ⟨b, 0, none⟩)] w fun e w' => e = .returned (.bool (a || c)) ∧ Below w.heap.size w w' := by
  have x0 := fun st : ExtW w => st.cell hS.c0
  have x4 := fun st : ExtW w => st.cell hS.c4
  have hp := fun {w : World} (st : ExtW w) => outs_any st.val
  clear hS
  cases a
  all_goals
    go_enter Tryz.func254, Tryz.ntmps254
    go_wp2_with fail
    refine wp_region_ext (by kernel_rfl) (by kernel_rfl) ?_
    repeat (go_big_quiet_step ((go_at_call 256; with_reducible refine calls_ext (hp _))))
    refine wpQuiet_nil ?_
    rintro W ⟨⟨W2, hW⟩, rfl⟩
    clear x0 x4
    go_wp2
    go_ret
    exact ⟨by simp, hW⟩

theorem cell_lt {w : World} {b o : Nat} {v : Value} (h : w.cell? ⟨b, o, none⟩ = some v) : b < w.heap.size := by
  unfold World.cell? at h; simp only at h
  rcases Nat.lt_or_ge b w.heap.size with h1 | h1
  · exact h1
  · rw [Array.getElem?_eq_none h1] at h; cases h

set_option maxRecDepth 10000 in
set_option maxHeartbeats 1000000 in
theorem put_step0 {w0 w : World} {B : WB} {V : WV} {s : CS} {b : Nat} {σ : SL} {g r : Int} (h : WS w0 w B V s) (hr : s.room) (hlo : w0.heap.size ≤ b) (hS : SlotAt w b 219 σ [.int .i64 g, .int .i64 r]) (hz : σ.tg ≠ 0) (hg : (Lit.int .u64 σ.tg).wf = true) (hl : σ.ln = 0) (hi : (Lit.int .u64 σ.it).wf = true) (hrr : 0 ≤ r ∧ r < 9223372036854775808) :
    Calls Tryz.prog 245 #[.pointer (some ⟨b, 0, none⟩), .pointer (some ⟨B.wb, 0, none⟩)] w fun e w' => e = .returned (.bool false) ∧ WS w0 w' B V (s.acc 2 σ.it r) ∧ SlotAt w' b 219 { σ with ln := 1 } [.int .i64 g, .int .i64 r] ∧ Fx wTy true b w w' := by
  have hz' : (σ.tg == 0) = false := beq_eq_false_iff_ne.2 hz
  have ho := Putover hS false false hz' (by rw [hl]; rfl)
  have hcallee : ∀ W, Below w.heap.size w W → Calls Tryz.prog 247 #[.pointer (some ⟨b, 0, none⟩), .pointer (some ⟨B.wb, 0, none⟩)] W fun e w' => e = .returned (.tuple #[]) ∧ WS w0 w' B V (s.acc 2 σ.it r) ∧ SlotAt w' b 219 (σ) [.int .i64 g, .int .i64 r] ∧ Fx wTy true b W w' := fun W hW =>
    (put_first (h.keep hW) hr (hS.below hW) hi hrr).mono fun e w' ⟨he, hw, hf⟩ => ⟨he, hw, hf.cells _ _ _ _ (hS.below hW) rfl, fr_fx b hf⟩
  have hln : (σ).ln = 0 := hl
  have hso : ((σ).tg == 0) = false := hz'
  have hidx : ∀ W : World, (Instr.index 362 (.agg #[fv (.func 247), fv (.func 248), fv (.func 249)]) (.int .i64 0)).run Tryz.prog W = .ok (fv (.func 247)) W := fun W => by kernel_rfl
  have hp := fun {w : World} (st : ExtW w) => puts_any st.val
  have hc4 := hS.c4
  rw [hl] at hc4
  have HC := Lib.hid hcallee; have H0 := Lib.hid hln; have HSO := Lib.hid hso
  clear h hr hS hg hcallee hl hz hz' hln hso hi hrr
  go_enter Tryz.func245, Tryz.ntmps245
  go_upto_region 2 with (go_at_call 244; refine ho.mono ?_; rintro e w1 ⟨rfl, b1⟩; have x4 := (fun st : ExtW w1 => st.cell ((b1.cell (p := ⟨b, 4, none⟩) (cell_lt hc4)).trans hc4)); have B1 := Lib.hid b1; clear b1 ho hc4)
  refine wp_region_ext_tail 9 (by kernel_rfl) (by kernel_rfl) ?_
  simp only [List.take_succ_cons, List.take_zero, List.drop_succ_cons, List.drop_zero]
  repeat (go_big_quiet_step ((go_at_call 246; with_reducible refine calls_ext (hp _))))
  refine wpQuiet_nil ?_
  rintro W ⟨⟨W2, hW⟩, rfl⟩
  have hb2 := B1.out.trans (hW.mono B1.out.size)
  have hcw := HC.out _ hb2
  have HB2 := Lib.hid hb2
  clear x4 hp hidx hW hb2
  go_upto_region 4 with (go_at_call 247; refine hcw.mono ?_; rintro e w3 ⟨rfl, h3, s3, f3⟩; have y4 := s3.c4; rw [H0.out] at y4; have yf := hfrz s3 4; have H3 := Lib.hid h3; have S3 := Lib.hid s3; have F3 := Lib.hid f3; clear h3 s3 f3 hcw)
  have ho2 := Putover (S3.out.set4 (1)) false false HSO.out rfl
  have h4 := set_take (o := 4) H3.out S3.out rfl hlo (.int .i64 (1))
  have s4 := S3.out.set4 (1)
  have f4 := (((below_fr HB2.out wTy true).fx b).trans F3.out).trans (set_fx wTy true w3 b 4 (.int .i64 (1)))
  have H4 := Lib.hid h4; have S4 := Lib.hid s4; have F4 := Lib.hid f4
  clear h4 s4 f4 H3 S3 F3 y4 yf
  change Code.wp _ _ _ _ (w3.setCell ⟨b, 4, none⟩ (.int .i64 (1)))
  generalize w3.setCell ⟨b, 4, none⟩ (.int .i64 (1)) = W4 at *
  go_wp2_with (go_at_call 244; refine ho2.mono ?_; rintro e w5 ⟨rfl, b5⟩)
  go_ret
  exact ⟨rfl, H4.out.keep b5, S4.out.below b5, F4.out.trans ((below_fr b5 wTy true).fx b)⟩

set_option maxRecDepth 10000 in
set_option maxHeartbeats 1000000 in
theorem put_step1 {w0 w : World} {B : WB} {V : WV} {s : CS} {b : Nat} {σ : SL} {rest : List Value} (h : WS w0 w B V s) (hr : s.room) (hlo : w0.heap.size ≤ b) (hS : SlotAt w b 219 σ rest) (hz : σ.tg ≠ 0) (hg : (Lit.int .u64 σ.tg).wf = true) (hl : σ.ln = 1)  :
    Calls Tryz.prog 245 #[.pointer (some ⟨b, 0, none⟩), .pointer (some ⟨B.wb, 0, none⟩)] w fun e w' => e = .returned (.bool false) ∧ WS w0 w' B V (s.acc 1 σ.tg (s.val σ.tg)) ∧ SlotAt w' b 219 { { σ with x := s.val σ.tg } with ln := 2 } rest ∧ Fx wTy true b w w' := by
  have hz' : (σ.tg == 0) = false := beq_eq_false_iff_ne.2 hz
  have ho := Putover hS false false hz' (by rw [hl]; rfl)
  have hcallee : ∀ W, Below w.heap.size w W → Calls Tryz.prog 248 #[.pointer (some ⟨b, 0, none⟩), .pointer (some ⟨B.wb, 0, none⟩)] W fun e w' => e = .returned (.tuple #[]) ∧ WS w0 w' B V (s.acc 1 σ.tg (s.val σ.tg)) ∧ SlotAt w' b 219 ({ σ with x := s.val σ.tg }) rest ∧ Fx wTy true b W w' := fun W hW =>
    put_second (h.keep hW) hr hlo (hS.below hW) hg
  have hln : ({ σ with x := s.val σ.tg }).ln = 1 := hl
  have hso : (({ σ with x := s.val σ.tg }).tg == 0) = false := hz'
  have hidx : ∀ W : World, (Instr.index 362 (.agg #[fv (.func 247), fv (.func 248), fv (.func 249)]) (.int .i64 1)).run Tryz.prog W = .ok (fv (.func 248)) W := fun W => by kernel_rfl
  have hp := fun {w : World} (st : ExtW w) => puts_any st.val
  have hc4 := hS.c4
  rw [hl] at hc4
  have HC := Lib.hid hcallee; have H1 := Lib.hid hln; have HSO := Lib.hid hso
  clear h hr hS hg hcallee hl hz hz' hln hso 
  go_enter Tryz.func245, Tryz.ntmps245
  go_upto_region 2 with (go_at_call 244; refine ho.mono ?_; rintro e w1 ⟨rfl, b1⟩; have x4 := (fun st : ExtW w1 => st.cell ((b1.cell (p := ⟨b, 4, none⟩) (cell_lt hc4)).trans hc4)); have B1 := Lib.hid b1; clear b1 ho hc4)
  refine wp_region_ext_tail 9 (by kernel_rfl) (by kernel_rfl) ?_
  simp only [List.take_succ_cons, List.take_zero, List.drop_succ_cons, List.drop_zero]
  repeat (go_big_quiet_step ((go_at_call 246; with_reducible refine calls_ext (hp _))))
  refine wpQuiet_nil ?_
  rintro W ⟨⟨W2, hW⟩, rfl⟩
  have hb2 := B1.out.trans (hW.mono B1.out.size)
  have hcw := HC.out _ hb2
  have HB2 := Lib.hid hb2
  clear x4 hp hidx hW hb2
  go_upto_region 4 with (go_at_call 248; refine hcw.mono ?_; rintro e w3 ⟨rfl, h3, s3, f3⟩; have y4 := s3.c4; rw [H1.out] at y4; have yf := hfrz s3 4; have H3 := Lib.hid h3; have S3 := Lib.hid s3; have F3 := Lib.hid f3; clear h3 s3 f3 hcw)
  have ho2 := Putover (S3.out.set4 (2)) false false HSO.out rfl
  have h4 := set_take (o := 4) H3.out S3.out rfl hlo (.int .i64 (2))
  have s4 := S3.out.set4 (2)
  have f4 := (((below_fr HB2.out wTy true).fx b).trans F3.out).trans (set_fx wTy true w3 b 4 (.int .i64 (2)))
  have H4 := Lib.hid h4; have S4 := Lib.hid s4; have F4 := Lib.hid f4
  clear h4 s4 f4 H3 S3 F3 y4 yf
  change Code.wp _ _ _ _ (w3.setCell ⟨b, 4, none⟩ (.int .i64 (2)))
  generalize w3.setCell ⟨b, 4, none⟩ (.int .i64 (2)) = W4 at *
  go_wp2_with (go_at_call 244; refine ho2.mono ?_; rintro e w5 ⟨rfl, b5⟩)
  go_ret
  exact ⟨rfl, H4.out.keep b5, S4.out.below b5, F4.out.trans ((below_fr b5 wTy true).fx b)⟩

set_option maxRecDepth 10000 in
set_option maxHeartbeats 1000000 in
theorem put_step2 {w0 w : World} {B : WB} {V : WV} {s : CS} {b : Nat} {σ : SL} {g r : Int} (h : WS w0 w B V s) (hr : s.room) (hlo : w0.heap.size ≤ b) (hS : SlotAt w b 219 σ [.int .i64 g, .int .i64 r]) (hz : σ.tg ≠ 0) (hg : (Lit.int .u64 σ.tg).wf = true) (hl : σ.ln = 2) (hx : 0 ≤ σ.x ∧ σ.x < 18446744073709551616) :
    Calls Tryz.prog 245 #[.pointer (some ⟨b, 0, none⟩), .pointer (some ⟨B.wb, 0, none⟩)] w fun e w' => e = .returned (.bool true) ∧ WS w0 w' B V (s.acc 2 σ.tg (TagPure.withOf σ.x σ.at_ g)) ∧ SlotAt w' b 219 { σ with ln := 3 } [.int .i64 g, .int .i64 r] ∧ Fx wTy true b w w' := by
  have hz' : (σ.tg == 0) = false := beq_eq_false_iff_ne.2 hz
  have ho := Putover hS false false hz' (by rw [hl]; rfl)
  have hcallee : ∀ W, Below w.heap.size w W → Calls Tryz.prog 249 #[.pointer (some ⟨b, 0, none⟩), .pointer (some ⟨B.wb, 0, none⟩)] W fun e w' => e = .returned (.tuple #[]) ∧ WS w0 w' B V (s.acc 2 σ.tg (TagPure.withOf σ.x σ.at_ g)) ∧ SlotAt w' b 219 (σ) [.int .i64 g, .int .i64 r] ∧ Fx wTy true b W w' := fun W hW =>
    (put_third (h.keep hW) hr (hS.below hW) hg hx).mono fun e w' ⟨he, hw, hf⟩ => ⟨he, hw, hf.cells _ _ _ _ (hS.below hW) rfl, fr_fx b hf⟩
  have hln : (σ).ln = 2 := hl
  have hso : ((σ).tg == 0) = false := hz'
  have hidx : ∀ W : World, (Instr.index 362 (.agg #[fv (.func 247), fv (.func 248), fv (.func 249)]) (.int .i64 2)).run Tryz.prog W = .ok (fv (.func 249)) W := fun W => by kernel_rfl
  have hp := fun {w : World} (st : ExtW w) => puts_any st.val
  have hc4 := hS.c4
  rw [hl] at hc4
  have HC := Lib.hid hcallee; have H2 := Lib.hid hln; have HSO := Lib.hid hso
  clear h hr hS hg hcallee hl hz hz' hln hso hx
  go_enter Tryz.func245, Tryz.ntmps245
  go_upto_region 2 with (go_at_call 244; refine ho.mono ?_; rintro e w1 ⟨rfl, b1⟩; have x4 := (fun st : ExtW w1 => st.cell ((b1.cell (p := ⟨b, 4, none⟩) (cell_lt hc4)).trans hc4)); have B1 := Lib.hid b1; clear b1 ho hc4)
  refine wp_region_ext_tail 9 (by kernel_rfl) (by kernel_rfl) ?_
  simp only [List.take_succ_cons, List.take_zero, List.drop_succ_cons, List.drop_zero]
  repeat (go_big_quiet_step ((go_at_call 246; with_reducible refine calls_ext (hp _))))
  refine wpQuiet_nil ?_
  rintro W ⟨⟨W2, hW⟩, rfl⟩
  have hb2 := B1.out.trans (hW.mono B1.out.size)
  have hcw := HC.out _ hb2
  have HB2 := Lib.hid hb2
  clear x4 hp hidx hW hb2
  go_upto_region 4 with (go_at_call 249; refine hcw.mono ?_; rintro e w3 ⟨rfl, h3, s3, f3⟩; have y4 := s3.c4; rw [H2.out] at y4; have yf := hfrz s3 4; have H3 := Lib.hid h3; have S3 := Lib.hid s3; have F3 := Lib.hid f3; clear h3 s3 f3 hcw)
  have ho2 := Putover (S3.out.set4 (3)) false true HSO.out rfl
  have h4 := set_take (o := 4) H3.out S3.out rfl hlo (.int .i64 (3))
  have s4 := S3.out.set4 (3)
  have f4 := (((below_fr HB2.out wTy true).fx b).trans F3.out).trans (set_fx wTy true w3 b 4 (.int .i64 (3)))
  have H4 := Lib.hid h4; have S4 := Lib.hid s4; have F4 := Lib.hid f4
  clear h4 s4 f4 H3 S3 F3 y4 yf
  change Code.wp _ _ _ _ (w3.setCell ⟨b, 4, none⟩ (.int .i64 (3)))
  generalize w3.setCell ⟨b, 4, none⟩ (.int .i64 (3)) = W4 at *
  go_wp2_with (go_at_call 244; refine ho2.mono ?_; rintro e w5 ⟨rfl, b5⟩)
  go_ret
  exact ⟨rfl, H4.out.keep b5, S4.out.below b5, F4.out.trans ((below_fr b5 wTy true).fx b)⟩

set_option maxRecDepth 10000 in
set_option maxHeartbeats 1000000 in
theorem out_step0 {w0 w : World} {B : WB} {V : WV} {s : CS} {b : Nat} {σ : SL} {rest : List Value} (h : WS w0 w B V s) (hr : s.room) (hlo : w0.heap.size ≤ b) (hS : SlotAt w b 226 σ rest) (hz : σ.tg ≠ 0) (hg : (Lit.int .u64 σ.tg).wf = true) (hl : σ.ln = 0)  :
    Calls Tryz.prog 255 #[.pointer (some ⟨b, 0, none⟩), .pointer (some ⟨B.wb, 0, none⟩)] w fun e w' => e = .returned (.bool false) ∧ WS w0 w' B V (s.acc 1 σ.tg (s.val σ.tg)) ∧ SlotAt w' b 226 { { σ with x := s.val σ.tg } with ln := 1 } rest ∧ Fx wTy true b w w' := by
  have hz' : (σ.tg == 0) = false := beq_eq_false_iff_ne.2 hz
  have ho := Outover hS false false hz' (by rw [hl]; rfl)
  have hcallee : ∀ W, Below w.heap.size w W → Calls Tryz.prog 257 #[.pointer (some ⟨b, 0, none⟩), .pointer (some ⟨B.wb, 0, none⟩)] W fun e w' => e = .returned (.tuple #[]) ∧ WS w0 w' B V (s.acc 1 σ.tg (s.val σ.tg)) ∧ SlotAt w' b 226 ({ σ with x := s.val σ.tg }) rest ∧ Fx wTy true b W w' := fun W hW =>
    out_first (h.keep hW) hr hlo (hS.below hW) hg
  have hln : ({ σ with x := s.val σ.tg }).ln = 0 := hl
  have hso : (({ σ with x := s.val σ.tg }).tg == 0) = false := hz'
  have hidx : ∀ W : World, (Instr.index 367 (.agg #[fv (.func 257), fv (.func 258), fv (.func 259)]) (.int .i64 0)).run Tryz.prog W = .ok (fv (.func 257)) W := fun W => by kernel_rfl
  have hp := fun {w : World} (st : ExtW w) => outs_any st.val
  have hc4 := hS.c4
  rw [hl] at hc4
  have HC := Lib.hid hcallee; have H0 := Lib.hid hln; have HSO := Lib.hid hso
  clear h hr hS hg hcallee hl hz hz' hln hso 
  go_enter Tryz.func255, Tryz.ntmps255
  go_upto_region 2 with (go_at_call 254; refine ho.mono ?_; rintro e w1 ⟨rfl, b1⟩; have x4 := (fun st : ExtW w1 => st.cell ((b1.cell (p := ⟨b, 4, none⟩) (cell_lt hc4)).trans hc4)); have B1 := Lib.hid b1; clear b1 ho hc4)
  refine wp_region_ext_tail 9 (by kernel_rfl) (by kernel_rfl) ?_
  simp only [List.take_succ_cons, List.take_zero, List.drop_succ_cons, List.drop_zero]
  repeat (go_big_quiet_step ((go_at_call 256; with_reducible refine calls_ext (hp _))))
  refine wpQuiet_nil ?_
  rintro W ⟨⟨W2, hW⟩, rfl⟩
  have hb2 := B1.out.trans (hW.mono B1.out.size)
  have hcw := HC.out _ hb2
  have HB2 := Lib.hid hb2
  clear x4 hp hidx hW hb2
  go_upto_region 4 with (go_at_call 257; refine hcw.mono ?_; rintro e w3 ⟨rfl, h3, s3, f3⟩; have y4 := s3.c4; rw [H0.out] at y4; have yf := hfrz s3 4; have H3 := Lib.hid h3; have S3 := Lib.hid s3; have F3 := Lib.hid f3; clear h3 s3 f3 hcw)
  have ho2 := Outover (S3.out.set4 (1)) false false HSO.out rfl
  have h4 := set_take (o := 4) H3.out S3.out rfl hlo (.int .i64 (1))
  have s4 := S3.out.set4 (1)
  have f4 := (((below_fr HB2.out wTy true).fx b).trans F3.out).trans (set_fx wTy true w3 b 4 (.int .i64 (1)))
  have H4 := Lib.hid h4; have S4 := Lib.hid s4; have F4 := Lib.hid f4
  clear h4 s4 f4 H3 S3 F3 y4 yf
  change Code.wp _ _ _ _ (w3.setCell ⟨b, 4, none⟩ (.int .i64 (1)))
  generalize w3.setCell ⟨b, 4, none⟩ (.int .i64 (1)) = W4 at *
  go_wp2_with (go_at_call 254; refine ho2.mono ?_; rintro e w5 ⟨rfl, b5⟩)
  go_ret
  exact ⟨rfl, H4.out.keep b5, S4.out.below b5, F4.out.trans ((below_fr b5 wTy true).fx b)⟩

set_option maxRecDepth 10000 in
set_option maxHeartbeats 1000000 in
theorem out_step1 {w0 w : World} {B : WB} {V : WV} {s : CS} {b : Nat} {σ : SL} {rest : List Value} (h : WS w0 w B V s) (hr : s.room) (hlo : w0.heap.size ≤ b) (hS : SlotAt w b 226 σ rest) (hz : σ.tg ≠ 0) (hg : (Lit.int .u64 σ.tg).wf = true) (hl : σ.ln = 1) (hx : 0 ≤ σ.x ∧ σ.x < 18446744073709551616) :
    Calls Tryz.prog 255 #[.pointer (some ⟨b, 0, none⟩), .pointer (some ⟨B.wb, 0, none⟩)] w fun e w' => e = .returned (.bool false) ∧ WS w0 w' B V (s.acc 2 σ.tg (TagPure.withOf σ.x σ.at_ 0)) ∧ SlotAt w' b 226 { σ with ln := 2 } rest ∧ Fx wTy true b w w' := by
  have hz' : (σ.tg == 0) = false := beq_eq_false_iff_ne.2 hz
  have ho := Outover hS false false hz' (by rw [hl]; rfl)
  have hcallee : ∀ W, Below w.heap.size w W → Calls Tryz.prog 258 #[.pointer (some ⟨b, 0, none⟩), .pointer (some ⟨B.wb, 0, none⟩)] W fun e w' => e = .returned (.tuple #[]) ∧ WS w0 w' B V (s.acc 2 σ.tg (TagPure.withOf σ.x σ.at_ 0)) ∧ SlotAt w' b 226 (σ) rest ∧ Fx wTy true b W w' := fun W hW =>
    (out_second (h.keep hW) hr (hS.below hW) hg hx).mono fun e w' ⟨he, hw, hf⟩ => ⟨he, hw, hf.cells _ _ _ _ (hS.below hW) rfl, fr_fx b hf⟩
  have hln : (σ).ln = 1 := hl
  have hso : ((σ).tg == 0) = false := hz'
  have hidx : ∀ W : World, (Instr.index 367 (.agg #[fv (.func 257), fv (.func 258), fv (.func 259)]) (.int .i64 1)).run Tryz.prog W = .ok (fv (.func 258)) W := fun W => by kernel_rfl
  have hp := fun {w : World} (st : ExtW w) => outs_any st.val
  have hc4 := hS.c4
  rw [hl] at hc4
  have HC := Lib.hid hcallee; have H1 := Lib.hid hln; have HSO := Lib.hid hso
  clear h hr hS hg hcallee hl hz hz' hln hso hx
  go_enter Tryz.func255, Tryz.ntmps255
  go_upto_region 2 with (go_at_call 254; refine ho.mono ?_; rintro e w1 ⟨rfl, b1⟩; have x4 := (fun st : ExtW w1 => st.cell ((b1.cell (p := ⟨b, 4, none⟩) (cell_lt hc4)).trans hc4)); have B1 := Lib.hid b1; clear b1 ho hc4)
  refine wp_region_ext_tail 9 (by kernel_rfl) (by kernel_rfl) ?_
  simp only [List.take_succ_cons, List.take_zero, List.drop_succ_cons, List.drop_zero]
  repeat (go_big_quiet_step ((go_at_call 256; with_reducible refine calls_ext (hp _))))
  refine wpQuiet_nil ?_
  rintro W ⟨⟨W2, hW⟩, rfl⟩
  have hb2 := B1.out.trans (hW.mono B1.out.size)
  have hcw := HC.out _ hb2
  have HB2 := Lib.hid hb2
  clear x4 hp hidx hW hb2
  go_upto_region 4 with (go_at_call 258; refine hcw.mono ?_; rintro e w3 ⟨rfl, h3, s3, f3⟩; have y4 := s3.c4; rw [H1.out] at y4; have yf := hfrz s3 4; have H3 := Lib.hid h3; have S3 := Lib.hid s3; have F3 := Lib.hid f3; clear h3 s3 f3 hcw)
  have ho2 := Outover (S3.out.set4 (2)) false false HSO.out rfl
  have h4 := set_take (o := 4) H3.out S3.out rfl hlo (.int .i64 (2))
  have s4 := S3.out.set4 (2)
  have f4 := (((below_fr HB2.out wTy true).fx b).trans F3.out).trans (set_fx wTy true w3 b 4 (.int .i64 (2)))
  have H4 := Lib.hid h4; have S4 := Lib.hid s4; have F4 := Lib.hid f4
  clear h4 s4 f4 H3 S3 F3 y4 yf
  change Code.wp _ _ _ _ (w3.setCell ⟨b, 4, none⟩ (.int .i64 (2)))
  generalize w3.setCell ⟨b, 4, none⟩ (.int .i64 (2)) = W4 at *
  go_wp2_with (go_at_call 254; refine ho2.mono ?_; rintro e w5 ⟨rfl, b5⟩)
  go_ret
  exact ⟨rfl, H4.out.keep b5, S4.out.below b5, F4.out.trans ((below_fr b5 wTy true).fx b)⟩

set_option maxRecDepth 10000 in
set_option maxHeartbeats 1000000 in
theorem out_step2 {w0 w : World} {B : WB} {V : WV} {s : CS} {b : Nat} {σ : SL} {rest : List Value} (h : WS w0 w B V s) (hr : s.room) (hlo : w0.heap.size ≤ b) (hS : SlotAt w b 226 σ rest) (hz : σ.tg ≠ 0) (hg : (Lit.int .u64 σ.tg).wf = true) (hl : σ.ln = 2) (hi : (Lit.int .u64 σ.it).wf = true) :
    Calls Tryz.prog 255 #[.pointer (some ⟨b, 0, none⟩), .pointer (some ⟨B.wb, 0, none⟩)] w fun e w' => e = .returned (.bool true) ∧ WS w0 w' B V (s.acc 2 σ.it 0) ∧ SlotAt w' b 226 { σ with ln := 3 } rest ∧ Fx wTy true b w w' := by
  have hz' : (σ.tg == 0) = false := beq_eq_false_iff_ne.2 hz
  have ho := Outover hS false false hz' (by rw [hl]; rfl)
  have hcallee : ∀ W, Below w.heap.size w W → Calls Tryz.prog 259 #[.pointer (some ⟨b, 0, none⟩), .pointer (some ⟨B.wb, 0, none⟩)] W fun e w' => e = .returned (.tuple #[]) ∧ WS w0 w' B V (s.acc 2 σ.it 0) ∧ SlotAt w' b 226 (σ) rest ∧ Fx wTy true b W w' := fun W hW =>
    (out_third (h.keep hW) hr (hS.below hW) hi).mono fun e w' ⟨he, hw, hf⟩ => ⟨he, hw, hf.cells _ _ _ _ (hS.below hW) rfl, fr_fx b hf⟩
  have hln : (σ).ln = 2 := hl
  have hso : ((σ).tg == 0) = false := hz'
  have hidx : ∀ W : World, (Instr.index 367 (.agg #[fv (.func 257), fv (.func 258), fv (.func 259)]) (.int .i64 2)).run Tryz.prog W = .ok (fv (.func 259)) W := fun W => by kernel_rfl
  have hp := fun {w : World} (st : ExtW w) => outs_any st.val
  have hc4 := hS.c4
  rw [hl] at hc4
  have HC := Lib.hid hcallee; have H2 := Lib.hid hln; have HSO := Lib.hid hso
  clear h hr hS hg hcallee hl hz hz' hln hso hi
  go_enter Tryz.func255, Tryz.ntmps255
  go_upto_region 2 with (go_at_call 254; refine ho.mono ?_; rintro e w1 ⟨rfl, b1⟩; have x4 := (fun st : ExtW w1 => st.cell ((b1.cell (p := ⟨b, 4, none⟩) (cell_lt hc4)).trans hc4)); have B1 := Lib.hid b1; clear b1 ho hc4)
  refine wp_region_ext_tail 9 (by kernel_rfl) (by kernel_rfl) ?_
  simp only [List.take_succ_cons, List.take_zero, List.drop_succ_cons, List.drop_zero]
  repeat (go_big_quiet_step ((go_at_call 256; with_reducible refine calls_ext (hp _))))
  refine wpQuiet_nil ?_
  rintro W ⟨⟨W2, hW⟩, rfl⟩
  have hb2 := B1.out.trans (hW.mono B1.out.size)
  have hcw := HC.out _ hb2
  have HB2 := Lib.hid hb2
  clear x4 hp hidx hW hb2
  go_upto_region 4 with (go_at_call 259; refine hcw.mono ?_; rintro e w3 ⟨rfl, h3, s3, f3⟩; have y4 := s3.c4; rw [H2.out] at y4; have yf := hfrz s3 4; have H3 := Lib.hid h3; have S3 := Lib.hid s3; have F3 := Lib.hid f3; clear h3 s3 f3 hcw)
  have ho2 := Outover (S3.out.set4 (3)) false true HSO.out rfl
  have h4 := set_take (o := 4) H3.out S3.out rfl hlo (.int .i64 (3))
  have s4 := S3.out.set4 (3)
  have f4 := (((below_fr HB2.out wTy true).fx b).trans F3.out).trans (set_fx wTy true w3 b 4 (.int .i64 (3)))
  have H4 := Lib.hid h4; have S4 := Lib.hid s4; have F4 := Lib.hid f4
  clear h4 s4 f4 H3 S3 F3 y4 yf
  change Code.wp _ _ _ _ (w3.setCell ⟨b, 4, none⟩ (.int .i64 (3)))
  generalize w3.setCell ⟨b, 4, none⟩ (.int .i64 (3)) = W4 at *
  go_wp2_with (go_at_call 254; refine ho2.mono ?_; rintro e w5 ⟨rfl, b5⟩)
  go_ret
  exact ⟨rfl, H4.out.keep b5, S4.out.below b5, F4.out.trans ((below_fr b5 wTy true).fx b)⟩
end Go.Proofs.YtmagpbbjjkmbpaaGreat

/-
  Slots, spots, runs of a Put, layer 13's examples.
-/
namespace Go.Proofs.YtmagpbbjjkmbpaaGreat
open Go.RowKit Go.Maps TagPure
set_option linter.unusedVariables false

theorem world12w (b : Int) (hb : 1 ≤ b ∧ b ≤ 12) (w : World) : Calls Tryz.prog 74 #[.int .i64 b] w fun e w' => ∃ B, e = .returned (.pointer (some ⟨B.wb, 0, none⟩)) ∧ WS w w' B (v0 ⟨b, 8, 3, 1, 16⟩) (CS.init [(2, tword b 0)]) := by
  have hn1 : Calls Tryz.prog 59 #[.agg #[.int .i64 b, .int .i64 8, .int .i64 3, .int .i64 1, .int .i64 16]] w fun e w' => ∃ B : WB, e = .returned (.tuple #[.pointer (some ⟨B.wb, 0, none⟩), .int .i64 0]) ∧ WS w w' B (v0 ⟨b, 8, 3, 1, 16⟩) (CS.init [(2, tword b 0)]) :=
    (wnew_ok ⟨b, 8, 3, 1, 16⟩ (by simp [Conf.ok]; omega) w).mono fun e w' ⟨wb, cb, ib, nb, he, g1, g2, g3, g4, g5, g6, g7⟩ => ⟨⟨wb, cb, ib, nb⟩, he, ws_of (Below.refl _ w) g1 g2 g3 g4 g5 g6 g7⟩
  clear hb
  go_enter Tryz.func74, Tryz.ntmps74
  go_wp2_with (go_at_call 59; with_reducible refine hn1.mono ?_; rintro e w1 ⟨B, rfl, h1⟩)
  go_ret
  exact ⟨_, rfl, h1⟩

theorem WS.peekx {w0 w : World} {B : WB} {V : WV} {s : CS} (h : WS w0 w B V s) (a : Int) (ha : (Lit.int .u64 a).wf = true) (st : ExtW w) : Calls Tryz.prog 22 #[.pointer (some ⟨B.cb, 0, none⟩), .int .u64 a] st.val fun e w' => e = .returned (.int .u64 (s.val a)) ∧ st.val = w' :=
  ((h.keep st.below).peek a ha).mono fun e w' ⟨he, hw⟩ => ⟨he, hw.symm⟩
set_option maxRecDepth 10000 in
set_option maxHeartbeats 1000000 in
theorem slot_any {w0 w : World} {B : WB} {V : WV} {s : CS} (h : WS w0 w B V s) (b u k : Int) (hk : (Lit.int .i64 k).wf = true) : Calls Tryz.prog 77 #[.pointer (some ⟨B.wb, 0, none⟩), .agg #[.int .i64 b, .int .i64 u, .int .i64 k]] w
    fun e w' => e = .returned (.tuple #[.int .i64 (tagOf (s.val (tagsA b u)) k), .int .u64 (s.val (itemA b u k))]) ∧ Below w.heap.size w w' := by
  have hB := below_alloc w (.cells #[.int .i64 b, .int .i64 u, .int .i64 k] 43)
  have h1 := h.keep hB
  have hit := fun {W : World} (st : ExtW W) => item_any b u k hk st.val
  have htg := fun {W : World} (st : ExtW W) => tags_any b u st.val
  have hp1 := fun st => h1.peekx (tagsA b u) (tagsA_wf b u) st
  have hp2 := fun st => h1.peekx (itemA b u k) (itemA_wf b u k) st
  have hwf := wf_bd (h.own.wf (tagsA b u))
  have hto := fun {W : World} (st : ExtW W) => tag_any (s.val (tagsA b u)) k st.val hwf.1 hwf.2
  have z := box3 w b u k 43
  have x0 := fun st : ExtW (w.alloc (.cells #[.int .i64 b, .int .i64 u, .int .i64 k] 43)) => st.cell (z 0)
  have x1 := fun st : ExtW (w.alloc (.cells #[.int .i64 b, .int .i64 u, .int .i64 k] 43)) => st.cell (z 1)
  have x2 := fun st : ExtW (w.alloc (.cells #[.int .i64 b, .int .i64 u, .int .i64 k] 43)) => st.cell (z 2)
  have x3 := fun st : ExtW (w.alloc (.cells #[.int .i64 b, .int .i64 u, .int .i64 k] 43)) => st.cell h1.c0
  have HB := Lib.hid hB
  clear h h1 hk hwf z hB
  go_enter Tryz.func77, Tryz.ntmps77
  go_wp2_with fail
  refine wp_region_ext (by kernel_rfl) (by kernel_rfl) ?_
  repeat (go_big_quiet_step (first
    | (go_at_call 134; with_reducible refine calls_ext (htg _))
    | (go_at_call 135; with_reducible refine calls_ext (hit _))
    | (go_at_call 22; with_reducible refine calls_ext_same (hp1 _))
    | (go_at_call 22; with_reducible refine calls_ext_same (hp2 _))
    | (go_at_call 133; with_reducible refine calls_ext (hto _))))
  refine wpQuiet_nil ?_
  rintro W ⟨⟨W2, hW⟩, rfl⟩
  clear x0 x1 x2 x3
  go_wp2
  go_ret2
  exact ⟨rfl, bnext HB.out hW⟩
def pst (s : CS) (tgA it at_ g r : Int) : Nat → CS
  | 0 => s
  | 1 => s.acc 2 it r
  | 2 => (s.acc 2 it r).acc 1 tgA ((s.acc 2 it r).val tgA)
  | _ => ((s.acc 2 it r).acc 1 tgA ((s.acc 2 it r).val tgA)).acc 2 tgA (withOf ((s.acc 2 it r).val tgA) at_ g)
def psl (s : CS) (tgA it at_ r : Int) : Nat → SL
  | 0 => ⟨tgA, it, at_, 0, 0⟩
  | 1 => ⟨tgA, it, at_, 0, 1⟩
  | 2 => ⟨tgA, it, at_, (s.acc 2 it r).val tgA, 2⟩
  | _ => ⟨tgA, it, at_, (s.acc 2 it r).val tgA, 3⟩
def ost (s : CS) (tgA it at_ : Int) : Nat → CS
  | 0 => s
  | 1 => s.acc 1 tgA (s.val tgA)
  | 2 => (s.acc 1 tgA (s.val tgA)).acc 2 tgA (withOf (s.val tgA) at_ 0)
  | _ => ((s.acc 1 tgA (s.val tgA)).acc 2 tgA (withOf (s.val tgA) at_ 0)).acc 2 it 0
def osl (s : CS) (tgA it at_ : Int) : Nat → SL
  | 0 => ⟨tgA, it, at_, 0, 0⟩
  | 1 => ⟨tgA, it, at_, s.val tgA, 1⟩
  | 2 => ⟨tgA, it, at_, s.val tgA, 2⟩
  | _ => ⟨tgA, it, at_, s.val tgA, 3⟩
section
variable {w0 w : World} {B : WB} {V : WV} {s : CS} {b : Nat} {tgA it at_ g r : Int} {m : Nat} (hm : s.n ≤ m ∧ s.cnt ≤ m) (hl : m + 3 < lim) (hlo : w0.heap.size ≤ b) (hz : tgA ≠ 0) (hg : (Lit.int .u64 tgA).wf = true) (hi : (Lit.int .u64 it).wf = true)
include hm
theorem pst_le (n : Nat) (hn : n ≤ 3) : (pst s tgA it at_ g r n).n ≤ m + n ∧ (pst s tgA it at_ g r n).cnt ≤ m + n := by
  match n, hn with
  | 0, _ => exact hm
  | 1, _ => exact room_acc m hm
  | 2, _ => exact room_acc _ (room_acc m hm)
  | 3, _ => exact room_acc _ (room_acc _ (room_acc m hm))
theorem ost_le (n : Nat) (hn : n ≤ 3) : (ost s tgA it at_ n).n ≤ m + n ∧ (ost s tgA it at_ n).cnt ≤ m + n := by
  match n, hn with
  | 0, _ => exact hm
  | 1, _ => exact room_acc m hm
  | 2, _ => exact room_acc _ (room_acc m hm)
  | 3, _ => exact room_acc _ (room_acc _ (room_acc m hm))
include hl hlo hz hg hi
theorem put_step (hrr : 0 ≤ r ∧ r < 9223372036854775808) (n : Nat) (hn : n < 3) (h : WS w0 w B V (pst s tgA it at_ g r n)) (hS : SlotAt w b 219 (psl s tgA it at_ r n) [.int .i64 g, .int .i64 r]) :
    Calls Tryz.prog 245 #[.pointer (some ⟨b, 0, none⟩), .pointer (some ⟨B.wb, 0, none⟩)] w fun e w' => (∃ o, e = .returned (.bool o)) ∧ WS w0 w' B V (pst s tgA it at_ g r (n + 1)) ∧ SlotAt w' b 219 (psl s tgA it at_ r (n + 1)) [.int .i64 g, .int .i64 r] ∧ Fx wTy true b w w' := by
  have hle := pst_le (tgA := tgA) (it := it) (at_ := at_) (g := g) (r := r) hm n (by omega)
  have hr : (pst s tgA it at_ g r n).room := CS.room_of (m + n) hle (by omega)
  match n, hn with
  | 0, _ => exact (put_step0 h hr hlo hS hz hg rfl hi hrr).mono fun e w' ⟨h1, h2⟩ => ⟨⟨_, h1⟩, h2⟩
  | 1, _ => exact (put_step1 h hr hlo hS hz hg rfl).mono fun e w' ⟨h1, h2⟩ => ⟨⟨_, h1⟩, h2⟩
  | 2, _ =>
    have hx : 0 ≤ (psl s tgA it at_ r 2).x ∧ (psl s tgA it at_ r 2).x < 18446744073709551616 := by
      have := wf_bd (h.own.wf tgA)
      simp only [pst, CS.acc_self] at this
      exact this
    exact (put_step2 h hr hlo hS hz hg rfl hx).mono fun e w' ⟨h1, h2⟩ => ⟨⟨_, h1⟩, h2⟩
theorem out_step (n : Nat) (hn : n < 3) (h : WS w0 w B V (ost s tgA it at_ n)) (hS : SlotAt w b 226 (osl s tgA it at_ n) []) :
    Calls Tryz.prog 255 #[.pointer (some ⟨b, 0, none⟩), .pointer (some ⟨B.wb, 0, none⟩)] w fun e w' => (∃ o, e = .returned (.bool o)) ∧ WS w0 w' B V (ost s tgA it at_ (n + 1)) ∧ SlotAt w' b 226 (osl s tgA it at_ (n + 1)) [] ∧ Fx wTy true b w w' := by
  have hle := ost_le (tgA := tgA) (it := it) (at_ := at_) hm n (by omega)
  have hr : (ost s tgA it at_ n).room := CS.room_of (m + n) hle (by omega)
  match n, hn with
  | 0, _ => exact (out_step0 h hr hlo hS hz hg rfl).mono fun e w' ⟨h1, h2⟩ => ⟨⟨_, h1⟩, h2⟩
  | 1, _ =>
    have hx : 0 ≤ (osl s tgA it at_ 1).x ∧ (osl s tgA it at_ 1).x < 18446744073709551616 := by
      have := wf_bd (h.own.wf tgA)
      simp only [ost, CS.acc_self] at this
      exact this
    exact (out_step1 h hr hlo hS hz hg rfl hx).mono fun e w' ⟨h1, h2⟩ => ⟨⟨_, h1⟩, h2⟩
  | 2, _ => exact (out_step2 h hr hlo hS hz hg rfl hi).mono fun e w' ⟨h1, h2⟩ => ⟨⟨true, h1⟩, h2⟩
end
end Go.Proofs.YtmagpbbjjkmbpaaGreat

/-
  A Put by itself; layer 13's examples.
-/
namespace Go.Proofs.YtmagpbbjjkmbpaaGreat
open Go.RowKit Go.Maps TagPure
set_option linter.unusedVariables false

theorem psl_tg (s : CS) (tgA it at_ r : Int) (n : Nat) : (psl s tgA it at_ r n).tg = tgA := by unfold psl; split <;> rfl
theorem psl_ln (s : CS) (tgA it at_ r : Int) (n : Nat) (hn : n ≤ 3) : (psl s tgA it at_ r n).ln = n := by
  match n, hn with
  | 0, _ | 1, _ | 2, _ | 3, _ => rfl
theorem osl_tg (s : CS) (tgA it at_ : Int) (n : Nat) : (osl s tgA it at_ n).tg = tgA := by unfold osl; split <;> rfl
theorem osl_ln (s : CS) (tgA it at_ : Int) (n : Nat) (hn : n ≤ 3) : (osl s tgA it at_ n).ln = n := by
  match n, hn with
  | 0, _ | 1, _ | 2, _ | 3, _ => rfl
theorem put_over {w : World} {b : Nat} {s : CS} {tgA it at_ r : Int} {rest : List Value} (n : Nat) (hn : n ≤ 3) (hz : tgA ≠ 0) (hS : SlotAt w b 219 (psl s tgA it at_ r n) rest) : Calls Tryz.prog 244 #[.pointer (some ⟨b, 0, none⟩)] w fun e w' => e = .returned (.bool ((n : Int) == 3)) ∧ Below w.heap.size w w' := by
  have := Putover hS false ((n : Int) == 3) (by rw [psl_tg]; exact beq_eq_false_iff_ne.2 hz) (by rw [psl_ln _ _ _ _ _ n hn])
  simpa only [Bool.false_or] using this
theorem out_over {w : World} {b : Nat} {s : CS} {tgA it at_ : Int} {rest : List Value} (n : Nat) (hn : n ≤ 3) (hz : tgA ≠ 0) (hS : SlotAt w b 226 (osl s tgA it at_ n) rest) : Calls Tryz.prog 254 #[.pointer (some ⟨b, 0, none⟩)] w fun e w' => e = .returned (.bool ((n : Int) == 3)) ∧ Below w.heap.size w w' := by
  have := Outover hS false ((n : Int) == 3) (by rw [osl_tg]; exact beq_eq_false_iff_ne.2 hz) (by rw [osl_ln _ _ _ _ n hn])
  simpa only [Bool.false_or] using this
set_option maxRecDepth 10000 in
set_option maxHeartbeats 1000000 in
theorem run_put {w0 w : World} {B : WB} {V : WV} {s : CS} {b : Nat} {tgA it at_ g r : Int} {m : Nat} (hm : s.n ≤ m ∧ s.cnt ≤ m) (hl : m + 3 < lim) (hlo : w0.heap.size ≤ b) (hz : tgA ≠ 0) (hg : (Lit.int .u64 tgA).wf = true) (hi : (Lit.int .u64 it).wf = true) (hrr : 0 ≤ r ∧ r < 9223372036854775808)
    (h : WS w0 w B V s) (hS : SlotAt w b 219 ⟨tgA, it, at_, 0, 0⟩ [.int .i64 g, .int .i64 r]) :
    Calls Tryz.prog 24 #[.pointer (some ⟨B.wb, 0, none⟩), .iface 75 (.pointer (some ⟨b, 0, none⟩)), .int .i64 9] w fun e w' => e = .returned (.int .i64 3) ∧ WS w0 w' B V (pst s tgA it at_ g r 3) ∧ SlotAt w' b 219 (psl s tgA it at_ r 3) [.int .i64 g, .int .i64 r] ∧ Fx wTy true b w w' := by
  have hst := fun (n : Nat) (hn : n < 3) (W : World) (h1 : WS w0 W B V (pst s tgA it at_ g r n)) h2 => put_step hm hl hlo hz hg hi hrr n hn h1 h2
  have H := Lib.hid h; have HS := Lib.hid hS; have HST := Lib.hid hst; have HZ := Lib.hid hz
  clear h hS hst hg hi hrr hm hl hz
  go_enter Tryz.func24, Tryz.ntmps24
  go_wp2
  go_loopw [7] (fun i wr => ∃ k : Nat, k ≤ 3 ∧ i = .int .i64 k ∧ WS w0 wr B V (pst s tgA it at_ g r k) ∧ SlotAt wr b 219 (psl s tgA it at_ r k) [.int .i64 g, .int .i64 r] ∧ Fx wTy true b w wr) (fun i _ => 3 - (intOf i).toNat)
  case atStart => exact ⟨0, by omega, rfl, H.out, HS.out, (below_fr (Below.refl _ w) wTy true).fx b⟩
  case round =>
    obtain ⟨k, hk, rfl, h1, h2, h3⟩ := hrel
    have hov := put_over k hk HZ.out h2
    by_cases hlt : k < 3
    · have hk9 : (k : Int) < 9 := by omega
      have hk3 : ((k : Int) == 3) = false := by rw [beq_eq_false_iff_ne]; omega
      rw [hk3] at hov
      have hcall := fun (W : World) (hb : Below wr.heap.size wr W) => HST.out k hlt W (h1.keep hb) (h2.below hb)
      have HC := Lib.hid hcall; have H3 := Lib.hid h3
      clear h1 h2 h3 hcall hk3
      go_wp2_with (first
        | (go_at_call 244; refine hov.mono ?_; rintro e w2 ⟨rfl, b2⟩; have hc := HC.out _ b2; have B2 := Lib.hid b2; clear b2 hov)
        | (go_at_call 245; refine hc.mono ?_; rintro e w3 ⟨⟨o, rfl⟩, g1, g2, g3⟩; have G1 := Lib.hid g1; have G2 := Lib.hid g2; have G3 := Lib.hid g3; clear g1 g2 g3 hc))
      exact ⟨⟨k + 1, by omega, by go_num, G1.out, G2.out, (H3.out.trans ((below_fr B2.out wTy true).fx b)).trans G3.out⟩, by simp [intOf]; omega⟩
    · obtain rfl : k = 3 := by omega
      have H1 := Lib.hid h1; have H2 := Lib.hid h2; have H3 := Lib.hid h3
      rw [show (((3 : Nat) : Int) == 3) = true from rfl] at hov
      clear h1 h2 h3
      go_wp2_with (go_at_call 244; refine hov.mono ?_; rintro e w2 ⟨rfl, b2⟩)
      go_ret
      exact ⟨rfl, H1.out.keep b2, H2.out.below b2, H3.out.trans ((below_fr b2 wTy true).fx b)⟩
end Go.Proofs.YtmagpbbjjkmbpaaGreat

/-
  Layer 13's examples.
-/
namespace Go.Proofs.YtmagpbbjjkmbpaaGreat
open Go.RowKit Go.Maps TagPure
set_option linter.unusedVariables false

theorem ex_it (n : Nat) (hn : n ≤ 3) (h3 : n = 3 ∨ n = 1) : True := trivial
def exs : CS := pst (CS.init [(2, tword 1 0)]) 4120 4123 2 7 5 3
theorem exs_le : exs.n ≤ 10 ∧ exs.cnt ≤ 10 := ⟨by decide, by decide⟩
theorem exs_it : exs.val 4123 = 5 := by decide
theorem exs_tg : exs.val 4120 = 458752 := by decide
def exo : CS := ost exs 4120 4123 2 3
theorem exo_it : exo.val 4123 = 0 := by decide
theorem exo_tg : exo.val 4120 = 0 := by decide
theorem spot3 (w : World) (q : Nat) (a b c : Value) (T : TypeId) (h : w.heap[q]? = some (.cells #[a, b, c] T (0, 0))) : w.cell? ⟨q, 0, none⟩ = some a ∧ w.cell? ⟨q, 1, none⟩ = some b ∧ w.cell? ⟨q, 2, none⟩ = some c := ⟨hcell h 0, hcell h 1, hcell h 2⟩
end Go.Proofs.YtmagpbbjjkmbpaaGreat

/-
  Spots of small tables: the n-th one; what a Put, and an Out, leave of all of them.
-/
namespace Go.Proofs.YtmagpbbjjkmbpaaGreat
open Go.RowKit Go.Maps TagPure
set_option linter.unusedVariables false

theorem four {b : Int} (h : 1 ≤ b ∧ b ≤ 4) : (b = 1 ∧ tsize b = 2) ∨ (b = 2 ∧ tsize b = 4) ∨ (b = 3 ∧ tsize b = 8) ∨ (b = 4 ∧ tsize b = 16) := by
  rcases (show b = 1 ∨ b = 2 ∨ b = 3 ∨ b = 4 by omega) with rfl | rfl | rfl | rfl
  · exact .inl ⟨rfl, by decide⟩
  · exact .inr (.inl ⟨rfl, by decide⟩)
  · exact .inr (.inr (.inl ⟨rfl, by decide⟩))
  · exact .inr (.inr (.inr ⟨rfl, by decide⟩))
theorem as_one {b : Int} (h : 1 ≤ b ∧ b ≤ 4) : asOld (tword b 0) = b ∧ asNow (tword b 0) = 0 ∧ spots (tword b 0) = 4 * tsize b := by
  rcases (show b = 1 ∨ b = 2 ∨ b = 3 ∨ b = 4 by omega) with rfl | rfl | rfl | rfl <;> decide
theorem tword_wf4 {b : Int} (h : 1 ≤ b ∧ b ≤ 4) : (Lit.int .u64 (tword b 0)).wf = true := by
  rcases (show b = 1 ∨ b = 2 ∨ b = 3 ∨ b = 4 by omega) with rfl | rfl | rfl | rfl <;> decide
set_option maxRecDepth 10000 in
set_option maxHeartbeats 1000000 in
theorem run_out {w0 w : World} {B : WB} {V : WV} {s : CS} {b : Nat} {tgA it at_ : Int} {m : Nat} (hm : s.n ≤ m ∧ s.cnt ≤ m) (hl : m + 3 < lim) (hlo : w0.heap.size ≤ b) (hz : tgA ≠ 0) (hg : (Lit.int .u64 tgA).wf = true) (hi : (Lit.int .u64 it).wf = true)
    (h : WS w0 w B V s) (hS : SlotAt w b 226 ⟨tgA, it, at_, 0, 0⟩ []) :
    Calls Tryz.prog 24 #[.pointer (some ⟨B.wb, 0, none⟩), .iface 82 (.pointer (some ⟨b, 0, none⟩)), .int .i64 9] w fun e w' => e = .returned (.int .i64 3) ∧ WS w0 w' B V (ost s tgA it at_ 3) ∧ SlotAt w' b 226 (osl s tgA it at_ 3) [] ∧ Fx wTy true b w w' := by
  have hst := fun (n : Nat) (hn : n < 3) (W : World) (h1 : WS w0 W B V (ost s tgA it at_ n)) h2 => out_step hm hl hlo hz hg hi n hn h1 h2
  have H := Lib.hid h; have HS := Lib.hid hS; have HST := Lib.hid hst; have HZ := Lib.hid hz
  clear h hS hst hg hi hm hl hz
  go_enter Tryz.func24, Tryz.ntmps24
  go_wp2
  go_loopw [7] (fun i wr => ∃ k : Nat, k ≤ 3 ∧ i = .int .i64 k ∧ WS w0 wr B V (ost s tgA it at_ k) ∧ SlotAt wr b 226 (osl s tgA it at_ k) [] ∧ Fx wTy true b w wr) (fun i _ => 3 - (intOf i).toNat)
  case atStart => exact ⟨0, by omega, rfl, H.out, HS.out, (below_fr (Below.refl _ w) wTy true).fx b⟩
  case round =>
    obtain ⟨k, hk, rfl, h1, h2, h3⟩ := hrel
    have hov := out_over k hk HZ.out h2
    by_cases hlt : k < 3
    · have hk9 : (k : Int) < 9 := by omega
      have hk3 : ((k : Int) == 3) = false := by rw [beq_eq_false_iff_ne]; omega
      rw [hk3] at hov
      have hcall := fun (W : World) (hb : Below wr.heap.size wr W) => HST.out k hlt W (h1.keep hb) (h2.below hb)
      have HC := Lib.hid hcall; have H3 := Lib.hid h3
      clear h1 h2 h3 hcall hk3
      go_wp2_with (first
        | (go_at_call 254; refine hov.mono ?_; rintro e w2 ⟨rfl, b2⟩; have hc := HC.out _ b2; have B2 := Lib.hid b2; clear b2 hov)
        | (go_at_call 255; refine hc.mono ?_; rintro e w3 ⟨⟨o, rfl⟩, g1, g2, g3⟩; have G1 := Lib.hid g1; have G2 := Lib.hid g2; have G3 := Lib.hid g3; clear g1 g2 g3 hc))
      exact ⟨⟨k + 1, by omega, by go_num, G1.out, G2.out, (H3.out.trans ((below_fr B2.out wTy true).fx b)).trans G3.out⟩, by simp [intOf]; omega⟩
    · obtain rfl : k = 3 := by omega
      have H1 := Lib.hid h1; have H2 := Lib.hid h2; have H3 := Lib.hid h3
      rw [show (((3 : Nat) : Int) == 3) = true from rfl] at hov
      clear h1 h2 h3
      go_wp2_with (go_at_call 254; refine hov.mono ?_; rintro e w2 ⟨rfl, b2⟩)
      go_ret
      exact ⟨rfl, H1.out.keep b2, H2.out.below b2, H3.out.trans ((below_fr b2 wTy true).fx b)⟩
/-! ## What they leave. -/
theorem ptg (x t : Int) (n i : Nat) (h0 : 0 ≤ x) (hn : n < 4) (hi : i < 4) (t0 : 0 ≤ t) (t1 : t ≤ 255) : tg (put x n t) i = if i = n then t else tg x i := by
  unfold put tg
  match n, hn, i, hi with
  | 0, _, 0, _ | 0, _, 1, _ | 0, _, 2, _ | 0, _, 3, _ | 1, _, 0, _ | 1, _, 1, _ | 1, _, 2, _ | 1, _, 3, _ | 2, _, 0, _ | 2, _, 1, _ | 2, _, 2, _ | 2, _, 3, _ | 3, _, 0, _ | 3, _, 1, _ | 3, _, 2, _ | 3, _, 3, _ => first | (simp; done) | (simp; omega)
theorem tag_with (x t k j : Int) (h0 : 0 ≤ x) (hk : 0 ≤ k ∧ k < 4) (hj : 0 ≤ j ∧ j < 4) (t0 : 0 ≤ t ∧ t ≤ 255) : tagOf (withOf x k t) j = if j = k then t else tagOf x j := by
  unfold withOf tagOf
  rw [if_pos hj, if_pos ⟨hk, t0⟩, if_pos hj, ptg x t _ _ h0 (by omega) (by omega) t0.1 t0.2]
  by_cases h : j = k
  · rw [if_pos h, if_pos (by rw [h])]
  · rw [if_neg h, if_neg (by omega)]
theorem cell_one {b b' u u' : Int} (hb : 1 ≤ b ∧ b ≤ 4) (hb' : 1 ≤ b' ∧ b' ≤ 4) (hu : 0 ≤ u ∧ u < tsize b) (hu' : 0 ≤ u' ∧ u' < tsize b') (h : tsize b + u = tsize b' + u') : b = b' ∧ u = u' := by
  rcases four hb with ⟨h1, h2⟩ | ⟨h1, h2⟩ | ⟨h1, h2⟩ | ⟨h1, h2⟩ <;> rcases four hb' with ⟨h3, h4⟩ | ⟨h3, h4⟩ | ⟨h3, h4⟩ | ⟨h3, h4⟩ <;> omega
theorem tags_at {b u : Int} (hu : 0 ≤ u ∧ u < tsize b) : tagsA b u = 4096 + 8 * (tsize b + u) := by
  unfold tagsA hasP; simp [hu]
theorem item_at {b u k : Int} (hu : 0 ≤ u ∧ u < tsize b) (hk : 0 ≤ k ∧ k < 4) : itemA b u k = 4096 + 8 * (tsize b + u) + 1 + k := by
  unfold itemA hasS hasP; simp [hu, hk]
/-- A slot says t and r; no other one's words have turned. -/
def Turned (s s' : CS) (b u k t r : Int) : Prop := ∀ b' u' k', (1 ≤ b' ∧ b' ≤ 4) → (0 ≤ u' ∧ u' < tsize b') → (0 ≤ k' ∧ k' < 4) →
  if b' = b ∧ u' = u ∧ k' = k then tagOf (s'.val (tagsA b' u')) k' = t ∧ s'.val (itemA b' u' k') = r else tagOf (s'.val (tagsA b' u')) k' = tagOf (s.val (tagsA b' u')) k' ∧ s'.val (itemA b' u' k') = s.val (itemA b' u' k')
theorem turned_of {s s' : CS} {b u k t r : Int} (hb : 1 ≤ b ∧ b ≤ 4) (hu : 0 ≤ u ∧ u < tsize b) (hk : 0 ≤ k ∧ k < 4) (ht : 0 ≤ t ∧ t ≤ 255) (h0 : 0 ≤ s.val (tagsA b u))
    (h1 : s'.val (tagsA b u) = withOf (s.val (tagsA b u)) k t) (h2 : s'.val (itemA b u k) = r) (h3 : ∀ x, x ≠ tagsA b u → x ≠ itemA b u k → s'.val x = s.val x) : Turned s s' b u k t r := by
  intro b' u' k' hb' hu' hk'
  have e1 := tags_at hu; have e2 := item_at hu hk; have e3 := tags_at hu'; have e4 := item_at hu' hk'
  by_cases hc : tsize b' + u' = tsize b + u
  · obtain ⟨rfl, rfl⟩ := cell_one hb' hb hu' hu hc
    by_cases hkk : k' = k
    · subst hkk
      rw [if_pos ⟨rfl, rfl, rfl⟩, h1, h2, tag_with _ _ _ _ h0 hk hk ht, if_pos rfl]
      exact ⟨rfl, rfl⟩
    · rw [if_neg (fun c => hkk c.2.2), h1, tag_with _ _ _ _ h0 hk hk' ht, if_neg hkk]
      exact ⟨rfl, h3 _ (by omega) (by omega)⟩
  · rw [if_neg (fun c => hc (by rw [c.1, c.2.1])), h3 _ (by omega) (by omega), h3 _ (by omega) (by omega)]
    exact ⟨rfl, rfl⟩
theorem put_turned (s : CS) {b u k t r : Int} (hb : 1 ≤ b ∧ b ≤ 4) (hu : 0 ≤ u ∧ u < tsize b) (hk : 0 ≤ k ∧ k < 4) (ht : 0 ≤ t ∧ t ≤ 255) (h0 : 0 ≤ s.val (tagsA b u)) : Turned s (pst s (tagsA b u) (itemA b u k) k t r 3) b u k t r := by
  have hne : tagsA b u ≠ itemA b u k := by rw [tags_at hu, item_at hu hk]; omega
  have e : (s.acc 2 (itemA b u k) r).val (tagsA b u) = s.val (tagsA b u) := CS.acc_val _ _ _ _ hne
  refine turned_of hb hu hk ht h0 ?_ ?_ ?_
  · show (CS.acc _ _ _ _).val _ = _
    rw [CS.acc_self, e]
  · show (CS.acc _ _ _ _).val _ = _
    rw [CS.acc_val _ _ _ _ hne.symm, CS.acc_val _ _ _ _ hne.symm, CS.acc_self]
  · intro x h1 h2
    show (CS.acc _ _ _ _).val _ = _
    rw [CS.acc_val _ _ _ _ h1, CS.acc_val _ _ _ _ h1, CS.acc_val _ _ _ _ h2]
theorem out_turned (s : CS) {b u k : Int} (hb : 1 ≤ b ∧ b ≤ 4) (hu : 0 ≤ u ∧ u < tsize b) (hk : 0 ≤ k ∧ k < 4) (h0 : 0 ≤ s.val (tagsA b u)) : Turned s (ost s (tagsA b u) (itemA b u k) k 3) b u k 0 0 := by
  have hne : tagsA b u ≠ itemA b u k := by rw [tags_at hu, item_at hu hk]; omega
  refine turned_of hb hu hk (by omega) h0 ?_ ?_ ?_
  · show (CS.acc _ _ _ _).val _ = _
    rw [CS.acc_val _ _ _ _ hne, CS.acc_self]
  · show (CS.acc _ _ _ _).val _ = _
    rw [CS.acc_self]
  · intro x h1 h2
    show (CS.acc _ _ _ _).val _ = _
    rw [CS.acc_val _ _ _ _ h2, CS.acc_val _ _ _ _ h1, CS.acc_val _ _ _ _ h1]
end Go.Proofs.YtmagpbbjjkmbpaaGreat

/-
  Grows: what is not there, what is over, without a world; the document's; a step.
-/
namespace Go.Proofs.YtmagpbbjjkmbpaaGreat
open Go.RowKit Go.Maps
set_option linter.unusedVariables false

/-- Is a Grow, a Swap, of a word over at once? -/
def gdead (t : Int) : Bool := asNow t != 0 || asOld t == 12
def sdead (t : Int) : Bool := asNow t == 0
theorem asNow_nn (t : Int) : 0 ≤ asNow t := by unfold asNow; split <;> omega
end Go.Proofs.YtmagpbbjjkmbpaaGreat

/-
  Grows: a step in a world. (written by gengrow.py)
-/
namespace Go.Proofs.YtmagpbbjjkmbpaaGreat
open Go.RowKit Go.Maps
set_option linter.unusedVariables false

theorem ws_set4 {w0 w : World} {B : WB} {V : WV} {s : CS} {b o : Nat} {cs : Array Value} {T : TypeId} (h : WS w0 w B V s) (hb : w.heap[b]? = some (.cells cs T (0, 0))) (hT : wTy T = false) (hlo : w0.heap.size ≤ b) (v : Value) : WS w0 (w.setCell ⟨b, o, none⟩ v) B V s :=
  h.fr (set_ty hb o v) (fun X hX => by cases hXT : (X == T); rfl; rw [beq_iff_eq] at hXT; subst hXT; rw [hX] at hT; cases hT) (set_below h.below h.below.size hlo o v)
theorem wu_of_wf {v : Int} (h : 0 ≤ v ∧ v < 18446744073709551616) : (Lit.int .u64 v).wf = true := bd_wf h

end Go.Proofs.YtmagpbbjjkmbpaaGreat

/-
  Grows: layer 19's examples.
-/
namespace Go.Proofs.YtmagpbbjjkmbpaaGreat
open Go.RowKit Go.Maps
set_option linter.unusedVariables false

theorem world12v (b : Int) (hb : 1 ≤ b ∧ b ≤ 12) (w : World) : Calls Tryz.prog 74 #[.int .i64 b] w fun e w' => ∃ B, e = .returned (.pointer (some ⟨B.wb, 0, none⟩)) ∧ WS w w' B (v0 ⟨b, 8, 3, 1, 16⟩) (CS.init [(2, tword b 0)]) := by
  have hn1 : Calls Tryz.prog 59 #[.agg #[.int .i64 b, .int .i64 8, .int .i64 3, .int .i64 1, .int .i64 16]] w fun e w' => ∃ B : WB, e = .returned (.tuple #[.pointer (some ⟨B.wb, 0, none⟩), .int .i64 0]) ∧ WS w w' B (v0 ⟨b, 8, 3, 1, 16⟩) (CS.init [(2, tword b 0)]) :=
    (wnew_ok ⟨b, 8, 3, 1, 16⟩ (by simp [Conf.ok]; omega) w).mono fun e w' ⟨wb, cb, ib, nb, he, g1, g2, g3, g4, g5, g6, g7⟩ => ⟨⟨wb, cb, ib, nb⟩, he, ws_of (Below.refl _ w) g1 g2 g3 g4 g5 g6 g7⟩
  clear hb
  go_enter Tryz.func74, Tryz.ntmps74
  go_wp2_with (go_at_call 59; with_reducible refine hn1.mono ?_; rintro e w1 ⟨B, rfl, h1⟩)
  go_ret
  exact ⟨_, rfl, h1⟩
theorem WS.slow {w0 w : World} {B : WB} {V : WV} {s : CS} (h : WS w0 w B V s) : w0.heap.size ≤ w.heap.size := h.below.size
end Go.Proofs.YtmagpbbjjkmbpaaGreat
