/-
  Texts of this prover, merged: Puts, PutsDo.
-/
import Derived.Test.YteofdldlmmkgbaaG13
import Derived.Test.YteofdldlmmkgbaaG1
/-
  Puts and Outs of a slot: their beginnings, their lines.
-/
namespace Go.Proofs.Yteofdldlmmkgbaa
open Go.RowKit
set_option linter.unusedVariables false

/-- A slot that is changed. -/
structure SL where
  tg : Int
  it : Int
  at_ : Int
  x : Int
  ln : Int
abbrev SL.cs (s : SL) (rest : List Value) : Array Value := (Value.int .u64 s.tg :: .int .u64 s.it :: .int .i64 s.at_ :: .int .u64 s.x :: .int .i64 s.ln :: rest).toArray
def SlotAt (w : World) (b : Nat) (T : TypeId) (s : SL) (rest : List Value) : Prop := w.heap[b]? = some (.cells (s.cs rest) T (0, 0))
section
variable {w w' : World} {b : Nat} {T : TypeId} {s : SL} {rest : List Value} (h : SlotAt w b T s rest)
include h
theorem SlotAt.lt : b < w.heap.size := (Array.getElem?_eq_some_iff.1 h).1
theorem SlotAt.below (hb : Below w.heap.size w w') : SlotAt w' b T s rest := (hb.block _ h.lt).trans h
theorem SlotAt.c0 : w.cell? ⟨b, 0, none⟩ = some (.int .u64 s.tg) := by rw [hcell h 0]; simp
theorem SlotAt.c1 : w.cell? ⟨b, 1, none⟩ = some (.int .u64 s.it) := by rw [hcell h 1]; simp
theorem SlotAt.c2 : w.cell? ⟨b, 2, none⟩ = some (.int .i64 s.at_) := by rw [hcell h 2]; simp
theorem SlotAt.c3 : w.cell? ⟨b, 3, none⟩ = some (.int .u64 s.x) := by rw [hcell h 3]; simp
theorem SlotAt.c4 : w.cell? ⟨b, 4, none⟩ = some (.int .i64 s.ln) := by rw [hcell h 4]; simp
theorem SlotAt.set3 (x : Int) : SlotAt (w.setCell ⟨b, 3, none⟩ (.int .u64 x)) b T { s with x := x } rest := by
  have := setCell_same h 3 (.int .u64 x)
  simpa [SlotAt, SL.cs] using this
theorem SlotAt.set4 (x : Int) : SlotAt (w.setCell ⟨b, 4, none⟩ (.int .i64 x)) b T { s with ln := x } rest := by
  have := setCell_same h 4 (.int .i64 x)
  simpa [SlotAt, SL.cs] using this
end
def sof (b u s : Int) : SL := if itemA b u s = 0 then ⟨0, 0, 0, 0, 0⟩ else ⟨tagsA b u, itemA b u s, s, 0, 0⟩
abbrev SL.agg (s : SL) : Value := .agg #[.int .u64 s.tg, .int .u64 s.it, .int .i64 s.at_, .int .u64 s.x, .int .i64 s.ln]
theorem box5s (w : World) (a b c d e : Value) (T : TypeId) : ∀ o, (w.alloc (.cells #[a, b, c, d, e] T)).cell? ⟨w.heap.size, o, none⟩ = (#[a, b, c, d, e] : Array Value)[o]? := fun o => by
  have := heap_alloc_new w (.cells #[a, b, c, d, e] T)
  unfold World.cell?; simp only; rw [this]; rfl

theorem sfive_below {w w1 : World} {q : Nat} {v0 v1 v2 v3 v4 : Value} (h : Below w.heap.size w w1) (hq : w.heap.size ≤ q) : Below w.heap.size w (((((w1.setCell ⟨q, 0, none⟩ v0).setCell ⟨q, 1, none⟩ v1).setCell ⟨q, 2, none⟩ v2).setCell ⟨q, 3, none⟩ v3).setCell ⟨q, 4, none⟩ v4) :=
  below_set (below_set (below_set (below_set (below_set h hq) hq) hq) hq) hq
theorem sfive_set {w1 : World} {q : Nat} {a b c d e : Value} {T : TypeId} (h : w1.heap[q]? = some (.cells #[a, b, c, d, e] T (0, 0))) (v0 v1 v2 v3 v4 : Value) :
    (((((w1.setCell ⟨q, 0, none⟩ v0).setCell ⟨q, 1, none⟩ v1).setCell ⟨q, 2, none⟩ v2).setCell ⟨q, 3, none⟩ v3).setCell ⟨q, 4, none⟩ v4).heap[q]? = some (.cells #[v0, v1, v2, v3, v4] T (0, 0)) :=
  setCell_same (setCell_same (setCell_same (setCell_same (setCell_same h 0 v0) 1 v1) 2 v2) 3 v3) 4 v4
set_option maxRecDepth 10000 in
set_option maxHeartbeats 1000000 in
theorem pof_any (b u s : Int) (hs : (Lit.int .i64 s).wf = true) (w : World) : Calls Try.prog 94 #[.agg #[.int .i64 b, .int .i64 u, .int .i64 s]] w fun e w' => e = .returned (sof b u s).agg ∧ Below w.heap.size w w' := by
  have hit := fun w => item_any b u s hs w
  have hitx := fun {w : World} (st : ExtW w) => item_any b u s hs st.val
  have htg := fun {w : World} (st : ExtW w) => tags_any b u st.val
  have hB1 : Below w.heap.size w ((w.alloc (.cells #[.int .i64 b, .int .i64 u, .int .i64 s] 55)).alloc (.cells #[.int .u64 0, .int .u64 0, .int .i64 0, .int .u64 0, .int .i64 0] 184)) :=
    bnext (below_alloc w _) (below_alloc _ _)
  have hz : ∀ o, ((w.alloc (.cells #[.int .i64 b, .int .i64 u, .int .i64 s] 55)).alloc (.cells #[.int .u64 0, .int .u64 0, .int .i64 0, .int .u64 0, .int .i64 0] 184)).cell? ⟨w.heap.size, o, none⟩ = (#[.int .i64 b, .int .i64 u, .int .i64 s] : Array Value)[o]? := fun o =>
    ((below_alloc _ _).cell (p := ⟨w.heap.size, o, none⟩) (by simp)).trans (box3 w b u s _ o)
  have hq : ((w.alloc (.cells #[.int .i64 b, .int .i64 u, .int .i64 s] 55)).alloc (.cells #[.int .u64 0, .int .u64 0, .int .i64 0, .int .u64 0, .int .i64 0] 184)).heap[w.heap.size + 1]? = some (.cells #[.int .u64 0, .int .u64 0, .int .i64 0, .int .u64 0, .int .i64 0] 184 (0, 0)) := by
    simpa using heap_alloc_new (w.alloc (.cells #[.int .i64 b, .int .i64 u, .int .i64 s] 55)) (.cells #[.int .u64 0, .int .u64 0, .int .i64 0, .int .u64 0, .int .i64 0] 184)
  have hsz : ((w.alloc (.cells #[.int .i64 b, .int .i64 u, .int .i64 s] 55)).alloc (.cells #[.int .u64 0, .int .u64 0, .int .i64 0, .int .u64 0, .int .i64 0] 184)).heap.size = w.heap.size + 2 := by simp
  have hZ := Lib.hid hz; have HQ := Lib.hid hq; have HB1 := Lib.hid hB1; have HSZ := Lib.hid hsz
  clear hz hq hB1 hsz
  unfold sof
  cases h0 : (itemA b u s == 0)
  · rw [if_neg (beq_eq_false_iff_ne.1 h0)]
    generalize itemA b u s = I at *
    generalize tagsA b u = G at *
    go_enter Try.func94, Try.ntmps94
    go_upto_region 3 with (go_at_call 89; refine (hit _).mono ?_; rintro e w1 ⟨rfl, b1⟩; have hq1 := (b1.block _ (by rw [HSZ.out]; omega)).trans HQ.out; have hz0 := (b1.cell (p := ⟨w.heap.size, 0, none⟩) (by rw [HSZ.out]; show w.heap.size < _; omega)).trans (hZ.out 0); have hz1 := (b1.cell (p := ⟨w.heap.size, 1, none⟩) (by rw [HSZ.out]; show w.heap.size < _; omega)).trans (hZ.out 1); have hz2 := (b1.cell (p := ⟨w.heap.size, 2, none⟩) (by rw [HSZ.out]; show w.heap.size < _; omega)).trans (hZ.out 2); have HB2 := Lib.hid (HB1.out.trans (b1.mono HB1.out.size)); clear b1)
    have x0 := fun st : ExtW w1 => st.cell hz0
    have x1 := fun st : ExtW w1 => st.cell hz1
    have x2 := fun st : ExtW w1 => st.cell hz2
    have HQ1 := Lib.hid hq1
    clear hz0 hz1 hz2 hq1 hit
    refine wp_region_ext_tail 8 (by kernel_rfl) (by kernel_rfl) ?_
    simp only [List.take_succ_cons, List.take_zero, List.drop_succ_cons, List.drop_zero]
    repeat (go_big_quiet_step (first | (go_at_call 89; with_reducible refine calls_ext (hitx _)) | (go_at_call 45; with_reducible refine calls_ext (htg _))))
    refine wpQuiet_nil ?_
    rintro W ⟨⟨W2, hW⟩, rfl⟩
    have hq1 := (hW.block _ (Array.getElem?_eq_some_iff.1 HQ1.out).1).trans HQ1.out
    have y0 := hcell hq1 0; have y1 := hcell hq1 1; have y2 := hcell hq1 2; have y3 := hcell hq1 3; have y4 := hcell hq1 4
    have yf := hfrz hq1
    have HW := Lib.hid (HB2.out.trans (hW.mono HB2.out.size))
    have hq5 := sfive_set hq1 (.int .u64 G) (.int .u64 I) (.int .i64 s) (.int .u64 0) (.int .i64 0)
    have hB5 := sfive_below (v0 := .int .u64 G) (v1 := .int .u64 I) (v2 := .int .i64 s) (v3 := .int .u64 0) (v4 := .int .i64 0) HW.out (show w.heap.size ≤ w.heap.size + 1 by omega)
    clear x0 x1 x2 hW hq1
    go_wp2
    generalize World.setCell _ _ _ = W5 at *
    have k0 := hcell hq5 0; have k1 := hcell hq5 1; have k2 := hcell hq5 2; have k3 := hcell hq5 3; have k4 := hcell hq5 4
    simp only [List.getElem?_toArray, List.getElem?_cons_zero, List.getElem?_cons_succ] at k0 k1 k2 k3 k4
    refine bodyPost_ret (v := .agg #[_, _, _, _, _]) (by simp [results, Try.results94, go_sem, k0, k1, k2, k3, k4]) rfl ⟨rfl, hB5⟩
  · rw [if_pos (beq_iff_eq.1 h0)]
    rw [beq_iff_eq.1 h0] at hit
    clear hitx htg h0
    go_enter Try.func94, Try.ntmps94
    go_wp2_with (go_at_call 89; refine (hit _).mono ?_; rintro e w1 ⟨rfl, b1⟩; have hq1 := (b1.block _ (by rw [HSZ.out]; omega)).trans HQ.out; have y0 := hcell hq1 0; have y1 := hcell hq1 1; have y2 := hcell hq1 2; have y3 := hcell hq1 3; have y4 := hcell hq1 4; have yf := hfrz hq1; have hq5 := sfive_set hq1 (.int .u64 0) (.int .u64 0) (.int .i64 0) (.int .u64 0) (.int .i64 0); have hB5 := sfive_below (v0 := .int .u64 0) (v1 := .int .u64 0) (v2 := .int .i64 0) (v3 := .int .u64 0) (v4 := .int .i64 0) (HB1.out.trans (b1.mono HB1.out.size)) (show w.heap.size ≤ w.heap.size + 1 by omega); clear hq1 b1)
    generalize World.setCell _ _ _ = W5 at *
    have k0 := hcell hq5 0; have k1 := hcell hq5 1; have k2 := hcell hq5 2; have k3 := hcell hq5 3; have k4 := hcell hq5 4
    simp only [List.getElem?_toArray, List.getElem?_cons_zero, List.getElem?_cons_succ] at k0 k1 k2 k3 k4
    refine bodyPost_ret (v := .agg #[_, _, _, _, _]) (by simp [results, Try.results94, go_sem, k0, k1, k2, k3, k4]) rfl ⟨rfl, hB5⟩

theorem newput_in (b u s g r : Int) (hs : (Lit.int .i64 s).wf = true) (hg : 1 ≤ g ∧ g ≤ 255) (hr : 1 ≤ r) (w : World) : Calls Try.prog 46 #[.agg #[.int .i64 b, .int .i64 u, .int .i64 s], .int .i64 g, .int .i64 r] w
    fun e w' => ∃ q, e = .returned (.pointer (some ⟨q, 0, none⟩)) ∧ SlotAt w' q 186 (sof b u s) [.int .i64 g, .int .i64 r] ∧ w.heap.size ≤ q ∧ Below w.heap.size w w' := by
  have ho := fun w => pof_any b u s hs w
  have h1 : decide (g < 1) = false := by simp; omega
  have h2 : decide (255 < g) = false := by simp; omega
  have h3 : decide (r < 1) = false := by simp; omega
  clear hg hr
  go_enter Try.func46, Try.ntmps46
  go_wp2_with (go_at_call 94; refine (ho _).mono ?_; rintro e w1 ⟨rfl, b1⟩)
  go_ret
  have hB1 := bnext (below_alloc w _) b1
  exact ⟨_, rfl, heap_alloc_new w1 _, hB1.size, bnext hB1 (below_alloc w1 _)⟩
theorem newout_any (b u s : Int) (hs : (Lit.int .i64 s).wf = true) (w : World) : Calls Try.prog 47 #[.agg #[.int .i64 b, .int .i64 u, .int .i64 s]] w
    fun e w' => ∃ q, e = .returned (.pointer (some ⟨q, 0, none⟩)) ∧ SlotAt w' q 189 (sof b u s) [] ∧ w.heap.size ≤ q ∧ Below w.heap.size w w' := by
  have ho := fun w => pof_any b u s hs w
  go_enter Try.func47, Try.ntmps47
  go_wp2_with (go_at_call 94; refine (ho _).mono ?_; rintro e w1 ⟨rfl, b1⟩)
  go_ret
  have hB1 := bnext (below_alloc w _) b1
  exact ⟨_, rfl, heap_alloc_new w1 _, hB1.size, bnext hB1 (below_alloc w1 _)⟩

section
variable {w0 w : World} {B : WB} {V : WV} {s : CS} {b : Nat} {T : TypeId} {σ : SL} {rest : List Value} (h : WS w0 w B V s) (hr : s.room) (hS : SlotAt w b T σ rest) (hT : wTy T = false) (hlo : w0.heap.size ≤ b) (hg : (Lit.int .u64 σ.tg).wf = true)
include h hr hS hT hlo hg
set_option maxRecDepth 10000 in
set_option maxHeartbeats 1000000 in
theorem slot_load : Calls Try.prog 156 #[.pointer (some ⟨b, 0, none⟩), .pointer (some ⟨B.wb, 0, none⟩)] w fun e w' => e = .returned (.tuple #[]) ∧ WS w0 w' B V (s.acc 1 σ.tg (s.val σ.tg)) ∧ SlotAt w' b T { σ with x := s.val σ.tg } rest ∧ Fx wTy true b w w' := by
  have hld : ∀ W, Below w.heap.size w W → Calls Try.prog 120 #[.pointer (some ⟨B.cb, 0, none⟩), .int .u64 σ.tg] W fun e w' => e = .returned (.int .u64 (s.val σ.tg)) ∧ WS w0 w' B V (s.acc 1 σ.tg (s.val σ.tg)) ∧ Fr wTy true W w' := fun W hW => (h.keep hW).load hr _ hg
  have hd0 := h.keep (Below.refl w.heap.size w).drew
  have y0 : w.drew.cell? ⟨B.wb, 0, none⟩ = some (.pointer (some ⟨B.cb, 0, none⟩)) := hd0.c0
  have y1 : w.drew.cell? ⟨b, 0, none⟩ = some (.int .u64 σ.tg) := SlotAt.c0 (w := w.drew) hS
  have hlw := hld w.drew (Below.refl w.heap.size w).drew
  have HS := Lib.hid hS
  clear hd0 h hr hS hg hld
  go_enter Try.func156, Try.ntmps156
  go_wp2_with fail
  go_region_with (go_at_call 120; refine hlw.mono ?_; rintro e w2 ⟨rfl, h2, f2⟩; have hs2 : SlotAt w2 b T σ rest := f2.cells _ _ _ _ HS.out hT; have z3 := hs2.c3; have zf := hfrz hs2 3; have H2 := Lib.hid h2; have F2 := Lib.hid f2; have HS2 := Lib.hid hs2; clear h2 f2 hs2 y0 y1 hlw)
  all_goals go_wp2
  all_goals go_end0
  all_goals exact ⟨rfl, set_take (o := 3) H2.out HS2.out hT hlo _, HS2.out.set3 _, (show Fx wTy true b w w2 from ⟨F2.out.size, fun k cs T fr h1 h2 _ => F2.out.cells k cs T fr h1 h2, fun h => by cases h⟩).trans (set_fx _ _ _ _ _ _)⟩
omit hT hlo in
set_option maxRecDepth 10000 in
set_option maxHeartbeats 1000000 in
theorem slot_store (g : Int) (hx : 0 ≤ σ.x ∧ σ.x < 18446744073709551616) : Calls Try.prog 157 #[.pointer (some ⟨b, 0, none⟩), .pointer (some ⟨B.wb, 0, none⟩), .int .i64 g] w fun e w' => e = .returned (.tuple #[]) ∧ WS w0 w' B V (s.acc 2 σ.tg (TagPure.withOf σ.x σ.at_ g)) ∧ Fr wTy true w w' := by
  have hst : ∀ W, Below w.heap.size w W → Calls Try.prog 83 #[.pointer (some ⟨B.cb, 0, none⟩), .int .u64 σ.tg, .int .u64 (TagPure.withOf σ.x σ.at_ g)] W fun e w' => e = .returned (.int .u64 (s.val σ.tg)) ∧ WS w0 w' B V (s.acc 2 σ.tg (TagPure.withOf σ.x σ.at_ g)) ∧ Fr wTy true W w' := fun W hW => (h.keep hW).store hr _ hg _ (withOf_wf _ _ _ hx.1 hx.2)
  have hwx := fun {w : World} (st : ExtW w) => with_any σ.x σ.at_ g st.val hx.1 hx.2
  have x0 := fun st : ExtW w => st.cell h.c0
  have x1 := fun st : ExtW w => st.cell hS.c0
  have x2 := fun st : ExtW w => st.cell hS.c2
  have x3 := fun st : ExtW w => st.cell hS.c3
  have HST := Lib.hid hst
  clear h hr hS hg hst hx
  go_enter Try.func157, Try.ntmps157
  go_wp2_with fail
  refine wp_region_ext_tail 18 (by kernel_rfl) (by kernel_rfl) ?_
  simp only [List.take_succ_cons, List.take_zero, List.drop_succ_cons, List.drop_zero]
  repeat (go_big_quiet_step ((go_at_call 49; with_reducible refine calls_ext (hwx _))))
  refine wpQuiet_nil ?_
  rintro W ⟨⟨W2, hW⟩, rfl⟩
  have hsw := HST.out _ hW
  have HW := Lib.hid hW
  clear x0 x1 x2 x3 hwx hW
  go_wp2_with (go_at_call 83; refine hsw.mono ?_; rintro e w2 ⟨rfl, h2, f2⟩)
  go_end0
  exact ⟨rfl, h2, (below_fr HW.out wTy true).trans f2⟩
end
end Go.Proofs.Yteofdldlmmkgbaa

/-
  Puts and Outs: their lines, their steps.
-/
namespace Go.Proofs.Yteofdldlmmkgbaa
open Go.RowKit
set_option linter.unusedVariables false

theorem fr_fx {w w' : World} (b : Nat) (F : Fr wTy true w w') : Fx wTy true b w w' := ⟨F.size, fun k cs T fr h1 h2 _ => F.cells k cs T fr h1 h2, fun h => by cases h⟩
section
variable {w0 w : World} {B : WB} {V : WV} {s : CS} {b : Nat} {σ : SL} (h : WS w0 w B V s) (hr : s.room)
include h hr
set_option maxRecDepth 10000 in
set_option maxHeartbeats 1000000 in
theorem put_first {g r : Int} (hS : SlotAt w b 186 σ [.int .i64 g, .int .i64 r]) (hi : (Lit.int .u64 σ.it).wf = true) (hrr : 0 ≤ r ∧ r < 9223372036854775808) : Calls Try.prog 192 #[.pointer (some ⟨b, 0, none⟩), .pointer (some ⟨B.wb, 0, none⟩)] w fun e w' => e = .returned (.tuple #[]) ∧ WS w0 w' B V (s.acc 2 σ.it r) ∧ Fr wTy true w w' := by
  have e1 : IntKind.u64.wrap r = r := by rw [IntKind.wrap_u64]; omega
  have hst : ∀ W, Below w.heap.size w W → Calls Try.prog 83 #[.pointer (some ⟨B.cb, 0, none⟩), .int .u64 σ.it, .int .u64 r] W fun e w' => e = .returned (.int .u64 (s.val σ.it)) ∧ WS w0 w' B V (s.acc 2 σ.it r) ∧ Fr wTy true W w' := fun W hW => (h.keep hW).store hr _ hi _ (bd_wf (by omega))
  have x0 := fun st : ExtW w => st.cell h.c0
  have x1 := fun st : ExtW w => st.cell hS.c1
  have x6 : ∀ st : ExtW w, st.val.cell? ⟨b, 6, none⟩ = some (.int .i64 r) := fun st => st.cell (by rw [hcell hS 6]; rfl)
  have HST := Lib.hid hst
  clear h hr hS hi hst hrr
  go_enter Try.func192, Try.ntmps192
  go_wp2_with fail
  refine wp_region_ext_tail 14 (by kernel_rfl) (by kernel_rfl) ?_
  simp only [List.take_succ_cons, List.take_zero, List.drop_succ_cons, List.drop_zero]
  repeat (go_big_quiet_step (fail))
  refine wpQuiet_nil ?_
  rintro W ⟨⟨W2, hW⟩, rfl⟩
  have hsw := HST.out _ hW
  have HW := Lib.hid hW
  clear x0 x1 x6 hW
  go_wp2_with (go_at_call 83; refine hsw.mono ?_; rintro e w2 ⟨rfl, h2, f2⟩)
  go_end0
  exact ⟨rfl, h2, (below_fr HW.out wTy true).trans f2⟩
theorem put_second {rest : List Value} (hlo : w0.heap.size ≤ b) (hS : SlotAt w b 186 σ rest) (hg : (Lit.int .u64 σ.tg).wf = true) : Calls Try.prog 193 #[.pointer (some ⟨b, 0, none⟩), .pointer (some ⟨B.wb, 0, none⟩)] w fun e w' => e = .returned (.tuple #[]) ∧ WS w0 w' B V (s.acc 1 σ.tg (s.val σ.tg)) ∧ SlotAt w' b 186 { σ with x := s.val σ.tg } rest ∧ Fx wTy true b w w' := by
  have hl := slot_load h hr hS rfl hlo hg
  have y0 := hS.c0
  clear h hr hS hg
  go_enter Try.func193, Try.ntmps193
  go_wp2_with (go_at_call 156; refine hl.mono ?_; rintro e w2 ⟨rfl, h2⟩)
  go_end0
  exact ⟨rfl, h2⟩
theorem out_first {rest : List Value} (hlo : w0.heap.size ≤ b) (hS : SlotAt w b 189 σ rest) (hg : (Lit.int .u64 σ.tg).wf = true) : Calls Try.prog 144 #[.pointer (some ⟨b, 0, none⟩), .pointer (some ⟨B.wb, 0, none⟩)] w fun e w' => e = .returned (.tuple #[]) ∧ WS w0 w' B V (s.acc 1 σ.tg (s.val σ.tg)) ∧ SlotAt w' b 189 { σ with x := s.val σ.tg } rest ∧ Fx wTy true b w w' := by
  have hl := slot_load h hr hS rfl hlo hg
  have y0 := hS.c0
  clear h hr hS hg
  go_enter Try.func144, Try.ntmps144
  go_wp2_with (go_at_call 156; refine hl.mono ?_; rintro e w2 ⟨rfl, h2⟩)
  go_end0
  exact ⟨rfl, h2⟩
theorem out_second {rest : List Value} (hS : SlotAt w b 189 σ rest) (hg : (Lit.int .u64 σ.tg).wf = true) (hx : 0 ≤ σ.x ∧ σ.x < 18446744073709551616) : Calls Try.prog 145 #[.pointer (some ⟨b, 0, none⟩), .pointer (some ⟨B.wb, 0, none⟩)] w fun e w' => e = .returned (.tuple #[]) ∧ WS w0 w' B V (s.acc 2 σ.tg (TagPure.withOf σ.x σ.at_ 0)) ∧ Fr wTy true w w' := by
  have hl := slot_store h hr hS hg 0 hx
  have y0 := hS.c0
  clear h hr hS hg hx
  go_enter Try.func145, Try.ntmps145
  go_wp2_with (go_at_call 157; refine hl.mono ?_; rintro e w2 ⟨rfl, h2⟩)
  go_end0
  exact ⟨rfl, h2⟩
set_option maxRecDepth 10000 in
set_option maxHeartbeats 1000000 in
theorem put_third {g r : Int} (hS : SlotAt w b 186 σ [.int .i64 g, .int .i64 r]) (hg : (Lit.int .u64 σ.tg).wf = true) (hx : 0 ≤ σ.x ∧ σ.x < 18446744073709551616) : Calls Try.prog 194 #[.pointer (some ⟨b, 0, none⟩), .pointer (some ⟨B.wb, 0, none⟩)] w fun e w' => e = .returned (.tuple #[]) ∧ WS w0 w' B V (s.acc 2 σ.tg (TagPure.withOf σ.x σ.at_ g)) ∧ Fr wTy true w w' := by
  have hl : ∀ W, Below w.heap.size w W → Calls Try.prog 157 #[.pointer (some ⟨b, 0, none⟩), .pointer (some ⟨B.wb, 0, none⟩), .int .i64 g] W fun e w' => e = .returned (.tuple #[]) ∧ WS w0 w' B V (s.acc 2 σ.tg (TagPure.withOf σ.x σ.at_ g)) ∧ Fr wTy true W w' := fun W hW => slot_store (h.keep hW) hr (hS.below hW) hg g hx
  have x0 := fun st : ExtW w => st.cell hS.c0
  have x5 : ∀ st : ExtW w, st.val.cell? ⟨b, 5, none⟩ = some (.int .i64 g) := fun st => st.cell (by rw [hcell hS 5]; rfl)
  have HL := Lib.hid hl
  clear h hr hS hg hx hl
  go_enter Try.func194, Try.ntmps194
  go_wp2_with fail
  refine wp_region_ext_tail 8 (by kernel_rfl) (by kernel_rfl) ?_
  simp only [List.take_succ_cons, List.take_zero, List.drop_succ_cons, List.drop_zero]
  repeat (go_big_quiet_step (fail))
  refine wpQuiet_nil ?_
  rintro W ⟨⟨W2, hW⟩, rfl⟩
  have hsw := HL.out _ hW
  have HW := Lib.hid hW
  clear x0 x5 hW
  go_wp2_with (go_at_call 157; refine hsw.mono ?_; rintro e w2 ⟨rfl, h2, f2⟩)
  go_end0
  exact ⟨rfl, h2, (below_fr HW.out wTy true).trans f2⟩
set_option maxRecDepth 10000 in
set_option maxHeartbeats 1000000 in
theorem out_third {rest : List Value} (hS : SlotAt w b 189 σ rest) (hi : (Lit.int .u64 σ.it).wf = true) : Calls Try.prog 146 #[.pointer (some ⟨b, 0, none⟩), .pointer (some ⟨B.wb, 0, none⟩)] w fun e w' => e = .returned (.tuple #[]) ∧ WS w0 w' B V (s.acc 2 σ.it 0) ∧ Fr wTy true w w' := by
  have hst : ∀ W, Below w.heap.size w W → Calls Try.prog 83 #[.pointer (some ⟨B.cb, 0, none⟩), .int .u64 σ.it, .int .u64 0] W fun e w' => e = .returned (.int .u64 (s.val σ.it)) ∧ WS w0 w' B V (s.acc 2 σ.it 0) ∧ Fr wTy true W w' := fun W hW => (h.keep hW).store hr _ hi _ (by decide)
  have x0 := fun st : ExtW w => st.cell h.c0
  have x00 := fun st : ExtW w => st.cell hS.c0
  have x1 := fun st : ExtW w => st.cell hS.c1
  have HST := Lib.hid hst
  clear h hr hS hi hst
  go_enter Try.func146, Try.ntmps146
  go_wp2_with fail
  refine wp_region_ext_tail 9 (by kernel_rfl) (by kernel_rfl) ?_
  simp only [List.take_succ_cons, List.take_zero, List.drop_succ_cons, List.drop_zero]
  repeat (go_big_quiet_step (fail))
  refine wpQuiet_nil ?_
  rintro W ⟨⟨W2, hW⟩, rfl⟩
  have hsw := HST.out _ hW
  have HW := Lib.hid hW
  clear x0 x00 x1 hW
  go_wp2_with (go_at_call 83; refine hsw.mono ?_; rintro e w2 ⟨rfl, h2, f2⟩)
  go_end0
  exact ⟨rfl, h2, (below_fr HW.out wTy true).trans f2⟩
end

abbrev fv (f : Fn) : Value := .func f #[] #[]

theorem puts_any (w : World) : Calls Try.prog 191 #[] w fun e w' => e = .returned (.agg #[fv (.func 192), fv (.func 193), fv (.func 194)]) ∧ Below w.heap.size w w' := by
  go_enter Try.func191, Try.ntmps191
  go_wp2
  refine bodyPost_ret (v := .agg #[fv (.func 192), fv (.func 193), fv (.func 194)]) (by simp [results, Try.results191, go_sem]) rfl ⟨rfl, ?_⟩
  exact below_alloc' _ _
set_option maxRecDepth 10000 in
theorem Putover {w : World} {b : Nat} {σ : SL} {rest : List Value} (hS : SlotAt w b 186 σ rest) (a c : Bool) (ha : (σ.tg == 0) = a) (hc : (σ.ln == 3) = c) : Calls Try.prog 189 #[.pointer (some ⟨b, 0, none⟩)] w fun e w' => e = .returned (.bool (a || c)) ∧ Below w.heap.size w w' := by
  have x0 := fun st : ExtW w => st.cell hS.c0
  have x4 := fun st : ExtW w => st.cell hS.c4
  have hp := fun {w : World} (st : ExtW w) => puts_any st.val
  clear hS
  cases a
  all_goals
    go_enter Try.func189, Try.ntmps189
    go_wp2_with fail
    refine wp_region_ext (by kernel_rfl) (by kernel_rfl) ?_
    repeat (go_big_quiet_step ((go_at_call 191; with_reducible refine calls_ext (hp _))))
    refine wpQuiet_nil ?_
    rintro W ⟨⟨W2, hW⟩, rfl⟩
    clear x0 x4
    go_wp2
    go_ret
    exact ⟨by simp, hW⟩

theorem outs_any (w : World) : Calls Try.prog 126 #[] w fun e w' => e = .returned (.agg #[fv (.func 144), fv (.func 145), fv (.func 146)]) ∧ Below w.heap.size w w' := by
  go_enter Try.func126, Try.ntmps126
  go_wp2
  refine bodyPost_ret (v := .agg #[fv (.func 144), fv (.func 145), fv (.func 146)]) (by simp [results, Try.results126, go_sem]) rfl ⟨rfl, ?_⟩
  exact below_alloc' _ _
set_option maxRecDepth 10000 in
theorem Outover {w : World} {b : Nat} {σ : SL} {rest : List Value} (hS : SlotAt w b 189 σ rest) (a c : Bool) (ha : (σ.tg == 0) = a) (hc : (σ.ln == 3) = c) : Calls Try.prog 125 #[.pointer (some ⟨b, 0, none⟩)] w fun e w' => e = .returned (.bool (a || c)) ∧ Below w.heap.size w w' := by
  have x0 := fun st : ExtW w => st.cell hS.c0
  have x4 := fun st : ExtW w => st.cell hS.c4
  have hp := fun {w : World} (st : ExtW w) => outs_any st.val
  clear hS
  cases a
  all_goals
    go_enter Try.func125, Try.ntmps125
    go_wp2_with fail
    refine wp_region_ext (by kernel_rfl) (by kernel_rfl) ?_
    repeat (go_big_quiet_step ((go_at_call 126; with_reducible refine calls_ext (hp _))))
    refine wpQuiet_nil ?_
    rintro W ⟨⟨W2, hW⟩, rfl⟩
    clear x0 x4
    go_wp2
    go_ret
    exact ⟨by simp, hW⟩

theorem cell_lt {w : World} {b o : Nat} {v : Value} (h : w.cell? ⟨b, o, none⟩ = some v) : b < w.heap.size := by
  unfold World.cell? at h; simp only at h
  rcases Nat.lt_or_ge b w.heap.size with h1 | h1
  · exact h1
  · rw [Array.getElem?_eq_none h1] at h; cases h

set_option maxRecDepth 10000 in
set_option maxHeartbeats 1000000 in
theorem put_step0 {w0 w : World} {B : WB} {V : WV} {s : CS} {b : Nat} {σ : SL} {g r : Int} (h : WS w0 w B V s) (hr : s.room) (hlo : w0.heap.size ≤ b) (hS : SlotAt w b 186 σ [.int .i64 g, .int .i64 r]) (hz : σ.tg ≠ 0) (hg : (Lit.int .u64 σ.tg).wf = true) (hl : σ.ln = 0) (hi : (Lit.int .u64 σ.it).wf = true) (hrr : 0 ≤ r ∧ r < 9223372036854775808) :
    Calls Try.prog 190 #[.pointer (some ⟨b, 0, none⟩), .pointer (some ⟨B.wb, 0, none⟩)] w fun e w' => e = .returned (.bool false) ∧ WS w0 w' B V (s.acc 2 σ.it r) ∧ SlotAt w' b 186 { σ with ln := 1 } [.int .i64 g, .int .i64 r] ∧ Fx wTy true b w w' := by
  have hz' : (σ.tg == 0) = false := beq_eq_false_iff_ne.2 hz
  have ho := Putover hS false false hz' (by rw [hl]; rfl)
  have hcallee : ∀ W, Below w.heap.size w W → Calls Try.prog 192 #[.pointer (some ⟨b, 0, none⟩), .pointer (some ⟨B.wb, 0, none⟩)] W fun e w' => e = .returned (.tuple #[]) ∧ WS w0 w' B V (s.acc 2 σ.it r) ∧ SlotAt w' b 186 (σ) [.int .i64 g, .int .i64 r] ∧ Fx wTy true b W w' := fun W hW =>
    (put_first (h.keep hW) hr (hS.below hW) hi hrr).mono fun e w' ⟨he, hw, hf⟩ => ⟨he, hw, hf.cells _ _ _ _ (hS.below hW) rfl, fr_fx b hf⟩
  have hln : (σ).ln = 0 := hl
  have hso : ((σ).tg == 0) = false := hz'
  have hidx : ∀ W : World, (Instr.index 269 (.agg #[fv (.func 192), fv (.func 193), fv (.func 194)]) (.int .i64 0)).run Try.prog W = .ok (fv (.func 192)) W := fun W => by kernel_rfl
  have hp := fun {w : World} (st : ExtW w) => puts_any st.val
  have hc4 := hS.c4
  rw [hl] at hc4
  have HC := Lib.hid hcallee; have H0 := Lib.hid hln; have HSO := Lib.hid hso
  clear h hr hS hg hcallee hl hz hz' hln hso hi hrr
  go_enter Try.func190, Try.ntmps190
  go_upto_region 2 with (go_at_call 189; refine ho.mono ?_; rintro e w1 ⟨rfl, b1⟩; have x4 := (fun st : ExtW w1 => st.cell ((b1.cell (p := ⟨b, 4, none⟩) (cell_lt hc4)).trans hc4)); have B1 := Lib.hid b1; clear b1 ho hc4)
  refine wp_region_ext_tail 9 (by kernel_rfl) (by kernel_rfl) ?_
  simp only [List.take_succ_cons, List.take_zero, List.drop_succ_cons, List.drop_zero]
  repeat (go_big_quiet_step ((go_at_call 191; with_reducible refine calls_ext (hp _))))
  refine wpQuiet_nil ?_
  rintro W ⟨⟨W2, hW⟩, rfl⟩
  have hb2 := B1.out.trans (hW.mono B1.out.size)
  have hcw := HC.out _ hb2
  have HB2 := Lib.hid hb2
  clear x4 hp hidx hW hb2
  go_upto_region 4 with (go_at_call 192; refine hcw.mono ?_; rintro e w3 ⟨rfl, h3, s3, f3⟩; have y4 := s3.c4; rw [H0.out] at y4; have yf := hfrz s3 4; have H3 := Lib.hid h3; have S3 := Lib.hid s3; have F3 := Lib.hid f3; clear h3 s3 f3 hcw)
  have ho2 := Putover (S3.out.set4 (1)) false false HSO.out rfl
  have h4 := set_take (o := 4) H3.out S3.out rfl hlo (.int .i64 (1))
  have s4 := S3.out.set4 (1)
  have f4 := (((below_fr HB2.out wTy true).fx b).trans F3.out).trans (set_fx wTy true w3 b 4 (.int .i64 (1)))
  have H4 := Lib.hid h4; have S4 := Lib.hid s4; have F4 := Lib.hid f4
  clear h4 s4 f4 H3 S3 F3 y4 yf
  change Code.wp _ _ _ _ (w3.setCell ⟨b, 4, none⟩ (.int .i64 (1)))
  generalize w3.setCell ⟨b, 4, none⟩ (.int .i64 (1)) = W4 at *
  go_wp2_with (go_at_call 189; refine ho2.mono ?_; rintro e w5 ⟨rfl, b5⟩)
  go_ret
  exact ⟨rfl, H4.out.keep b5, S4.out.below b5, F4.out.trans ((below_fr b5 wTy true).fx b)⟩

set_option maxRecDepth 10000 in
set_option maxHeartbeats 1000000 in
theorem put_step1 {w0 w : World} {B : WB} {V : WV} {s : CS} {b : Nat} {σ : SL} {rest : List Value} (h : WS w0 w B V s) (hr : s.room) (hlo : w0.heap.size ≤ b) (hS : SlotAt w b 186 σ rest) (hz : σ.tg ≠ 0) (hg : (Lit.int .u64 σ.tg).wf = true) (hl : σ.ln = 1)  :
    Calls Try.prog 190 #[.pointer (some ⟨b, 0, none⟩), .pointer (some ⟨B.wb, 0, none⟩)] w fun e w' => e = .returned (.bool false) ∧ WS w0 w' B V (s.acc 1 σ.tg (s.val σ.tg)) ∧ SlotAt w' b 186 { { σ with x := s.val σ.tg } with ln := 2 } rest ∧ Fx wTy true b w w' := by
  have hz' : (σ.tg == 0) = false := beq_eq_false_iff_ne.2 hz
  have ho := Putover hS false false hz' (by rw [hl]; rfl)
  have hcallee : ∀ W, Below w.heap.size w W → Calls Try.prog 193 #[.pointer (some ⟨b, 0, none⟩), .pointer (some ⟨B.wb, 0, none⟩)] W fun e w' => e = .returned (.tuple #[]) ∧ WS w0 w' B V (s.acc 1 σ.tg (s.val σ.tg)) ∧ SlotAt w' b 186 ({ σ with x := s.val σ.tg }) rest ∧ Fx wTy true b W w' := fun W hW =>
    put_second (h.keep hW) hr hlo (hS.below hW) hg
  have hln : ({ σ with x := s.val σ.tg }).ln = 1 := hl
  have hso : (({ σ with x := s.val σ.tg }).tg == 0) = false := hz'
  have hidx : ∀ W : World, (Instr.index 269 (.agg #[fv (.func 192), fv (.func 193), fv (.func 194)]) (.int .i64 1)).run Try.prog W = .ok (fv (.func 193)) W := fun W => by kernel_rfl
  have hp := fun {w : World} (st : ExtW w) => puts_any st.val
  have hc4 := hS.c4
  rw [hl] at hc4
  have HC := Lib.hid hcallee; have H1 := Lib.hid hln; have HSO := Lib.hid hso
  clear h hr hS hg hcallee hl hz hz' hln hso 
  go_enter Try.func190, Try.ntmps190
  go_upto_region 2 with (go_at_call 189; refine ho.mono ?_; rintro e w1 ⟨rfl, b1⟩; have x4 := (fun st : ExtW w1 => st.cell ((b1.cell (p := ⟨b, 4, none⟩) (cell_lt hc4)).trans hc4)); have B1 := Lib.hid b1; clear b1 ho hc4)
  refine wp_region_ext_tail 9 (by kernel_rfl) (by kernel_rfl) ?_
  simp only [List.take_succ_cons, List.take_zero, List.drop_succ_cons, List.drop_zero]
  repeat (go_big_quiet_step ((go_at_call 191; with_reducible refine calls_ext (hp _))))
  refine wpQuiet_nil ?_
  rintro W ⟨⟨W2, hW⟩, rfl⟩
  have hb2 := B1.out.trans (hW.mono B1.out.size)
  have hcw := HC.out _ hb2
  have HB2 := Lib.hid hb2
  clear x4 hp hidx hW hb2
  go_upto_region 4 with (go_at_call 193; refine hcw.mono ?_; rintro e w3 ⟨rfl, h3, s3, f3⟩; have y4 := s3.c4; rw [H1.out] at y4; have yf := hfrz s3 4; have H3 := Lib.hid h3; have S3 := Lib.hid s3; have F3 := Lib.hid f3; clear h3 s3 f3 hcw)
  have ho2 := Putover (S3.out.set4 (2)) false false HSO.out rfl
  have h4 := set_take (o := 4) H3.out S3.out rfl hlo (.int .i64 (2))
  have s4 := S3.out.set4 (2)
  have f4 := (((below_fr HB2.out wTy true).fx b).trans F3.out).trans (set_fx wTy true w3 b 4 (.int .i64 (2)))
  have H4 := Lib.hid h4; have S4 := Lib.hid s4; have F4 := Lib.hid f4
  clear h4 s4 f4 H3 S3 F3 y4 yf
  change Code.wp _ _ _ _ (w3.setCell ⟨b, 4, none⟩ (.int .i64 (2)))
  generalize w3.setCell ⟨b, 4, none⟩ (.int .i64 (2)) = W4 at *
  go_wp2_with (go_at_call 189; refine ho2.mono ?_; rintro e w5 ⟨rfl, b5⟩)
  go_ret
  exact ⟨rfl, H4.out.keep b5, S4.out.below b5, F4.out.trans ((below_fr b5 wTy true).fx b)⟩

set_option maxRecDepth 10000 in
set_option maxHeartbeats 1000000 in
theorem put_step2 {w0 w : World} {B : WB} {V : WV} {s : CS} {b : Nat} {σ : SL} {g r : Int} (h : WS w0 w B V s) (hr : s.room) (hlo : w0.heap.size ≤ b) (hS : SlotAt w b 186 σ [.int .i64 g, .int .i64 r]) (hz : σ.tg ≠ 0) (hg : (Lit.int .u64 σ.tg).wf = true) (hl : σ.ln = 2) (hx : 0 ≤ σ.x ∧ σ.x < 18446744073709551616) :
    Calls Try.prog 190 #[.pointer (some ⟨b, 0, none⟩), .pointer (some ⟨B.wb, 0, none⟩)] w fun e w' => e = .returned (.bool true) ∧ WS w0 w' B V (s.acc 2 σ.tg (TagPure.withOf σ.x σ.at_ g)) ∧ SlotAt w' b 186 { σ with ln := 3 } [.int .i64 g, .int .i64 r] ∧ Fx wTy true b w w' := by
  have hz' : (σ.tg == 0) = false := beq_eq_false_iff_ne.2 hz
  have ho := Putover hS false false hz' (by rw [hl]; rfl)
  have hcallee : ∀ W, Below w.heap.size w W → Calls Try.prog 194 #[.pointer (some ⟨b, 0, none⟩), .pointer (some ⟨B.wb, 0, none⟩)] W fun e w' => e = .returned (.tuple #[]) ∧ WS w0 w' B V (s.acc 2 σ.tg (TagPure.withOf σ.x σ.at_ g)) ∧ SlotAt w' b 186 (σ) [.int .i64 g, .int .i64 r] ∧ Fx wTy true b W w' := fun W hW =>
    (put_third (h.keep hW) hr (hS.below hW) hg hx).mono fun e w' ⟨he, hw, hf⟩ => ⟨he, hw, hf.cells _ _ _ _ (hS.below hW) rfl, fr_fx b hf⟩
  have hln : (σ).ln = 2 := hl
  have hso : ((σ).tg == 0) = false := hz'
  have hidx : ∀ W : World, (Instr.index 269 (.agg #[fv (.func 192), fv (.func 193), fv (.func 194)]) (.int .i64 2)).run Try.prog W = .ok (fv (.func 194)) W := fun W => by kernel_rfl
  have hp := fun {w : World} (st : ExtW w) => puts_any st.val
  have hc4 := hS.c4
  rw [hl] at hc4
  have HC := Lib.hid hcallee; have H2 := Lib.hid hln; have HSO := Lib.hid hso
  clear h hr hS hg hcallee hl hz hz' hln hso hx
  go_enter Try.func190, Try.ntmps190
  go_upto_region 2 with (go_at_call 189; refine ho.mono ?_; rintro e w1 ⟨rfl, b1⟩; have x4 := (fun st : ExtW w1 => st.cell ((b1.cell (p := ⟨b, 4, none⟩) (cell_lt hc4)).trans hc4)); have B1 := Lib.hid b1; clear b1 ho hc4)
  refine wp_region_ext_tail 9 (by kernel_rfl) (by kernel_rfl) ?_
  simp only [List.take_succ_cons, List.take_zero, List.drop_succ_cons, List.drop_zero]
  repeat (go_big_quiet_step ((go_at_call 191; with_reducible refine calls_ext (hp _))))
  refine wpQuiet_nil ?_
  rintro W ⟨⟨W2, hW⟩, rfl⟩
  have hb2 := B1.out.trans (hW.mono B1.out.size)
  have hcw := HC.out _ hb2
  have HB2 := Lib.hid hb2
  clear x4 hp hidx hW hb2
  go_upto_region 4 with (go_at_call 194; refine hcw.mono ?_; rintro e w3 ⟨rfl, h3, s3, f3⟩; have y4 := s3.c4; rw [H2.out] at y4; have yf := hfrz s3 4; have H3 := Lib.hid h3; have S3 := Lib.hid s3; have F3 := Lib.hid f3; clear h3 s3 f3 hcw)
  have ho2 := Putover (S3.out.set4 (3)) false true HSO.out rfl
  have h4 := set_take (o := 4) H3.out S3.out rfl hlo (.int .i64 (3))
  have s4 := S3.out.set4 (3)
  have f4 := (((below_fr HB2.out wTy true).fx b).trans F3.out).trans (set_fx wTy true w3 b 4 (.int .i64 (3)))
  have H4 := Lib.hid h4; have S4 := Lib.hid s4; have F4 := Lib.hid f4
  clear h4 s4 f4 H3 S3 F3 y4 yf
  change Code.wp _ _ _ _ (w3.setCell ⟨b, 4, none⟩ (.int .i64 (3)))
  generalize w3.setCell ⟨b, 4, none⟩ (.int .i64 (3)) = W4 at *
  go_wp2_with (go_at_call 189; refine ho2.mono ?_; rintro e w5 ⟨rfl, b5⟩)
  go_ret
  exact ⟨rfl, H4.out.keep b5, S4.out.below b5, F4.out.trans ((below_fr b5 wTy true).fx b)⟩

set_option maxRecDepth 10000 in
set_option maxHeartbeats 1000000 in
theorem out_step0 {w0 w : World} {B : WB} {V : WV} {s : CS} {b : Nat} {σ : SL} {rest : List Value} (h : WS w0 w B V s) (hr : s.room) (hlo : w0.heap.size ≤ b) (hS : SlotAt w b 189 σ rest) (hz : σ.tg ≠ 0) (hg : (Lit.int .u64 σ.tg).wf = true) (hl : σ.ln = 0)  :
    Calls Try.prog 90 #[.pointer (some ⟨b, 0, none⟩), .pointer (some ⟨B.wb, 0, none⟩)] w fun e w' => e = .returned (.bool false) ∧ WS w0 w' B V (s.acc 1 σ.tg (s.val σ.tg)) ∧ SlotAt w' b 189 { { σ with x := s.val σ.tg } with ln := 1 } rest ∧ Fx wTy true b w w' := by
  have hz' : (σ.tg == 0) = false := beq_eq_false_iff_ne.2 hz
  have ho := Outover hS false false hz' (by rw [hl]; rfl)
  have hcallee : ∀ W, Below w.heap.size w W → Calls Try.prog 144 #[.pointer (some ⟨b, 0, none⟩), .pointer (some ⟨B.wb, 0, none⟩)] W fun e w' => e = .returned (.tuple #[]) ∧ WS w0 w' B V (s.acc 1 σ.tg (s.val σ.tg)) ∧ SlotAt w' b 189 ({ σ with x := s.val σ.tg }) rest ∧ Fx wTy true b W w' := fun W hW =>
    out_first (h.keep hW) hr hlo (hS.below hW) hg
  have hln : ({ σ with x := s.val σ.tg }).ln = 0 := hl
  have hso : (({ σ with x := s.val σ.tg }).tg == 0) = false := hz'
  have hidx : ∀ W : World, (Instr.index 220 (.agg #[fv (.func 144), fv (.func 145), fv (.func 146)]) (.int .i64 0)).run Try.prog W = .ok (fv (.func 144)) W := fun W => by kernel_rfl
  have hp := fun {w : World} (st : ExtW w) => outs_any st.val
  have hc4 := hS.c4
  rw [hl] at hc4
  have HC := Lib.hid hcallee; have H0 := Lib.hid hln; have HSO := Lib.hid hso
  clear h hr hS hg hcallee hl hz hz' hln hso 
  go_enter Try.func90, Try.ntmps90
  go_upto_region 2 with (go_at_call 125; refine ho.mono ?_; rintro e w1 ⟨rfl, b1⟩; have x4 := (fun st : ExtW w1 => st.cell ((b1.cell (p := ⟨b, 4, none⟩) (cell_lt hc4)).trans hc4)); have B1 := Lib.hid b1; clear b1 ho hc4)
  refine wp_region_ext_tail 9 (by kernel_rfl) (by kernel_rfl) ?_
  simp only [List.take_succ_cons, List.take_zero, List.drop_succ_cons, List.drop_zero]
  repeat (go_big_quiet_step ((go_at_call 126; with_reducible refine calls_ext (hp _))))
  refine wpQuiet_nil ?_
  rintro W ⟨⟨W2, hW⟩, rfl⟩
  have hb2 := B1.out.trans (hW.mono B1.out.size)
  have hcw := HC.out _ hb2
  have HB2 := Lib.hid hb2
  clear x4 hp hidx hW hb2
  go_upto_region 4 with (go_at_call 144; refine hcw.mono ?_; rintro e w3 ⟨rfl, h3, s3, f3⟩; have y4 := s3.c4; rw [H0.out] at y4; have yf := hfrz s3 4; have H3 := Lib.hid h3; have S3 := Lib.hid s3; have F3 := Lib.hid f3; clear h3 s3 f3 hcw)
  have ho2 := Outover (S3.out.set4 (1)) false false HSO.out rfl
  have h4 := set_take (o := 4) H3.out S3.out rfl hlo (.int .i64 (1))
  have s4 := S3.out.set4 (1)
  have f4 := (((below_fr HB2.out wTy true).fx b).trans F3.out).trans (set_fx wTy true w3 b 4 (.int .i64 (1)))
  have H4 := Lib.hid h4; have S4 := Lib.hid s4; have F4 := Lib.hid f4
  clear h4 s4 f4 H3 S3 F3 y4 yf
  change Code.wp _ _ _ _ (w3.setCell ⟨b, 4, none⟩ (.int .i64 (1)))
  generalize w3.setCell ⟨b, 4, none⟩ (.int .i64 (1)) = W4 at *
  go_wp2_with (go_at_call 125; refine ho2.mono ?_; rintro e w5 ⟨rfl, b5⟩)
  go_ret
  exact ⟨rfl, H4.out.keep b5, S4.out.below b5, F4.out.trans ((below_fr b5 wTy true).fx b)⟩

set_option maxRecDepth 10000 in
set_option maxHeartbeats 1000000 in
theorem out_step1 {w0 w : World} {B : WB} {V : WV} {s : CS} {b : Nat} {σ : SL} {rest : List Value} (h : WS w0 w B V s) (hr : s.room) (hlo : w0.heap.size ≤ b) (hS : SlotAt w b 189 σ rest) (hz : σ.tg ≠ 0) (hg : (Lit.int .u64 σ.tg).wf = true) (hl : σ.ln = 1) (hx : 0 ≤ σ.x ∧ σ.x < 18446744073709551616) :
    Calls Try.prog 90 #[.pointer (some ⟨b, 0, none⟩), .pointer (some ⟨B.wb, 0, none⟩)] w fun e w' => e = .returned (.bool false) ∧ WS w0 w' B V (s.acc 2 σ.tg (TagPure.withOf σ.x σ.at_ 0)) ∧ SlotAt w' b 189 { σ with ln := 2 } rest ∧ Fx wTy true b w w' := by
  have hz' : (σ.tg == 0) = false := beq_eq_false_iff_ne.2 hz
  have ho := Outover hS false false hz' (by rw [hl]; rfl)
  have hcallee : ∀ W, Below w.heap.size w W → Calls Try.prog 145 #[.pointer (some ⟨b, 0, none⟩), .pointer (some ⟨B.wb, 0, none⟩)] W fun e w' => e = .returned (.tuple #[]) ∧ WS w0 w' B V (s.acc 2 σ.tg (TagPure.withOf σ.x σ.at_ 0)) ∧ SlotAt w' b 189 (σ) rest ∧ Fx wTy true b W w' := fun W hW =>
    (out_second (h.keep hW) hr (hS.below hW) hg hx).mono fun e w' ⟨he, hw, hf⟩ => ⟨he, hw, hf.cells _ _ _ _ (hS.below hW) rfl, fr_fx b hf⟩
  have hln : (σ).ln = 1 := hl
  have hso : ((σ).tg == 0) = false := hz'
  have hidx : ∀ W : World, (Instr.index 220 (.agg #[fv (.func 144), fv (.func 145), fv (.func 146)]) (.int .i64 1)).run Try.prog W = .ok (fv (.func 145)) W := fun W => by kernel_rfl
  have hp := fun {w : World} (st : ExtW w) => outs_any st.val
  have hc4 := hS.c4
  rw [hl] at hc4
  have HC := Lib.hid hcallee; have H1 := Lib.hid hln; have HSO := Lib.hid hso
  clear h hr hS hg hcallee hl hz hz' hln hso hx
  go_enter Try.func90, Try.ntmps90
  go_upto_region 2 with (go_at_call 125; refine ho.mono ?_; rintro e w1 ⟨rfl, b1⟩; have x4 := (fun st : ExtW w1 => st.cell ((b1.cell (p := ⟨b, 4, none⟩) (cell_lt hc4)).trans hc4)); have B1 := Lib.hid b1; clear b1 ho hc4)
  refine wp_region_ext_tail 9 (by kernel_rfl) (by kernel_rfl) ?_
  simp only [List.take_succ_cons, List.take_zero, List.drop_succ_cons, List.drop_zero]
  repeat (go_big_quiet_step ((go_at_call 126; with_reducible refine calls_ext (hp _))))
  refine wpQuiet_nil ?_
  rintro W ⟨⟨W2, hW⟩, rfl⟩
  have hb2 := B1.out.trans (hW.mono B1.out.size)
  have hcw := HC.out _ hb2
  have HB2 := Lib.hid hb2
  clear x4 hp hidx hW hb2
  go_upto_region 4 with (go_at_call 145; refine hcw.mono ?_; rintro e w3 ⟨rfl, h3, s3, f3⟩; have y4 := s3.c4; rw [H1.out] at y4; have yf := hfrz s3 4; have H3 := Lib.hid h3; have S3 := Lib.hid s3; have F3 := Lib.hid f3; clear h3 s3 f3 hcw)
  have ho2 := Outover (S3.out.set4 (2)) false false HSO.out rfl
  have h4 := set_take (o := 4) H3.out S3.out rfl hlo (.int .i64 (2))
  have s4 := S3.out.set4 (2)
  have f4 := (((below_fr HB2.out wTy true).fx b).trans F3.out).trans (set_fx wTy true w3 b 4 (.int .i64 (2)))
  have H4 := Lib.hid h4; have S4 := Lib.hid s4; have F4 := Lib.hid f4
  clear h4 s4 f4 H3 S3 F3 y4 yf
  change Code.wp _ _ _ _ (w3.setCell ⟨b, 4, none⟩ (.int .i64 (2)))
  generalize w3.setCell ⟨b, 4, none⟩ (.int .i64 (2)) = W4 at *
  go_wp2_with (go_at_call 125; refine ho2.mono ?_; rintro e w5 ⟨rfl, b5⟩)
  go_ret
  exact ⟨rfl, H4.out.keep b5, S4.out.below b5, F4.out.trans ((below_fr b5 wTy true).fx b)⟩

set_option maxRecDepth 10000 in
set_option maxHeartbeats 1000000 in
theorem out_step2 {w0 w : World} {B : WB} {V : WV} {s : CS} {b : Nat} {σ : SL} {rest : List Value} (h : WS w0 w B V s) (hr : s.room) (hlo : w0.heap.size ≤ b) (hS : SlotAt w b 189 σ rest) (hz : σ.tg ≠ 0) (hg : (Lit.int .u64 σ.tg).wf = true) (hl : σ.ln = 2) (hi : (Lit.int .u64 σ.it).wf = true) :
    Calls Try.prog 90 #[.pointer (some ⟨b, 0, none⟩), .pointer (some ⟨B.wb, 0, none⟩)] w fun e w' => e = .returned (.bool true) ∧ WS w0 w' B V (s.acc 2 σ.it 0) ∧ SlotAt w' b 189 { σ with ln := 3 } rest ∧ Fx wTy true b w w' := by
  have hz' : (σ.tg == 0) = false := beq_eq_false_iff_ne.2 hz
  have ho := Outover hS false false hz' (by rw [hl]; rfl)
  have hcallee : ∀ W, Below w.heap.size w W → Calls Try.prog 146 #[.pointer (some ⟨b, 0, none⟩), .pointer (some ⟨B.wb, 0, none⟩)] W fun e w' => e = .returned (.tuple #[]) ∧ WS w0 w' B V (s.acc 2 σ.it 0) ∧ SlotAt w' b 189 (σ) rest ∧ Fx wTy true b W w' := fun W hW =>
    (out_third (h.keep hW) hr (hS.below hW) hi).mono fun e w' ⟨he, hw, hf⟩ => ⟨he, hw, hf.cells _ _ _ _ (hS.below hW) rfl, fr_fx b hf⟩
  have hln : (σ).ln = 2 := hl
  have hso : ((σ).tg == 0) = false := hz'
  have hidx : ∀ W : World, (Instr.index 220 (.agg #[fv (.func 144), fv (.func 145), fv (.func 146)]) (.int .i64 2)).run Try.prog W = .ok (fv (.func 146)) W := fun W => by kernel_rfl
  have hp := fun {w : World} (st : ExtW w) => outs_any st.val
  have hc4 := hS.c4
  rw [hl] at hc4
  have HC := Lib.hid hcallee; have H2 := Lib.hid hln; have HSO := Lib.hid hso
  clear h hr hS hg hcallee hl hz hz' hln hso hi
  go_enter Try.func90, Try.ntmps90
  go_upto_region 2 with (go_at_call 125; refine ho.mono ?_; rintro e w1 ⟨rfl, b1⟩; have x4 := (fun st : ExtW w1 => st.cell ((b1.cell (p := ⟨b, 4, none⟩) (cell_lt hc4)).trans hc4)); have B1 := Lib.hid b1; clear b1 ho hc4)
  refine wp_region_ext_tail 9 (by kernel_rfl) (by kernel_rfl) ?_
  simp only [List.take_succ_cons, List.take_zero, List.drop_succ_cons, List.drop_zero]
  repeat (go_big_quiet_step ((go_at_call 126; with_reducible refine calls_ext (hp _))))
  refine wpQuiet_nil ?_
  rintro W ⟨⟨W2, hW⟩, rfl⟩
  have hb2 := B1.out.trans (hW.mono B1.out.size)
  have hcw := HC.out _ hb2
  have HB2 := Lib.hid hb2
  clear x4 hp hidx hW hb2
  go_upto_region 4 with (go_at_call 146; refine hcw.mono ?_; rintro e w3 ⟨rfl, h3, s3, f3⟩; have y4 := s3.c4; rw [H2.out] at y4; have yf := hfrz s3 4; have H3 := Lib.hid h3; have S3 := Lib.hid s3; have F3 := Lib.hid f3; clear h3 s3 f3 hcw)
  have ho2 := Outover (S3.out.set4 (3)) false true HSO.out rfl
  have h4 := set_take (o := 4) H3.out S3.out rfl hlo (.int .i64 (3))
  have s4 := S3.out.set4 (3)
  have f4 := (((below_fr HB2.out wTy true).fx b).trans F3.out).trans (set_fx wTy true w3 b 4 (.int .i64 (3)))
  have H4 := Lib.hid h4; have S4 := Lib.hid s4; have F4 := Lib.hid f4
  clear h4 s4 f4 H3 S3 F3 y4 yf
  change Code.wp _ _ _ _ (w3.setCell ⟨b, 4, none⟩ (.int .i64 (3)))
  generalize w3.setCell ⟨b, 4, none⟩ (.int .i64 (3)) = W4 at *
  go_wp2_with (go_at_call 125; refine ho2.mono ?_; rintro e w5 ⟨rfl, b5⟩)
  go_ret
  exact ⟨rfl, H4.out.keep b5, S4.out.below b5, F4.out.trans ((below_fr b5 wTy true).fx b)⟩
end Go.Proofs.Yteofdldlmmkgbaa
