import Derived.Test.YtmakjfeepmiggaaGreatZ1
import Derived.Test.YtmakjfeepmiggaaGreatB2
import Derived.Maps.RangeWalk
namespace Go.Proofs.YtmakjfeepmiggaaGreat
open Go.RowKit Go.Maps
set_option linter.unusedVariables false
theorem hcell {w : World} {q : Nat} {cs : Array Value} {T : TypeId} (h : w.heap[q]? = some (.cells cs T (0, 0))) (o : Nat) : w.cell? ⟨q, o, none⟩ = cs[o]? := by unfold World.cell?; simp only; rw [h]; rfl
theorem hfrz {w : World} {q : Nat} {cs : Array Value} {T : TypeId} (h : w.heap[q]? = some (.cells cs T (0, 0))) (o : Nat) : w.frozen? ⟨q, o, none⟩ = false := by simp [World.frozen?, h]
theorem WS.of {w0 w w' : World} {B : WB} {V : WV} {s s' : CS} {S : Nat → Prop} (h : WS w0 w B V s) (hS : Cells w w0.heap.size B.cb s S) (hA : Acc w w0.heap.size B.cb s' S w') : WS w0 w' B V s' ∧ Fr wTy true w w' := by
  have hk : Keeps S w w' := by obtain ⟨S', h1, h2, h3⟩ := hA; exact h2
  exact h.acc (Own.acc hS h.below hA) (hA.rest hS) hk.size (h.fmk.acc hS hA)
section
variable {w0 w : World} {B : WB} {V : WV} {s : CS} (h : WS w0 w B V s) (hr : s.room) (a : Int) (ha : (Lit.int .u64 a).wf = true)
include h hr ha
theorem WS.load : Calls Tryz.prog 62 #[.pointer (some ⟨B.cb, 0, none⟩), .int .u64 a] w fun e w' => e = .returned (.int .u64 (s.val a)) ∧ WS w0 w' B V (s.acc 1 a (s.val a)) ∧ Fr wTy true w w' := by
  obtain ⟨⟨S, hS⟩, hB⟩ := h.own
  exact (load_any w _ B.cb s S hS a ha hr.1 hr.2 hB.size).mono fun e w' ⟨he, hA⟩ => ⟨he, h.of hS hA⟩
theorem WS.store (v : Int) (hv : (Lit.int .u64 v).wf = true) : Calls Tryz.prog 41 #[.pointer (some ⟨B.cb, 0, none⟩), .int .u64 a, .int .u64 v] w fun e w' => e = .returned (.int .u64 (s.val a)) ∧ WS w0 w' B V (s.acc 2 a v) ∧ Fr wTy true w w' := by
  obtain ⟨⟨S, hS⟩, hB⟩ := h.own
  exact (store_any w _ B.cb s S hS a v ha hv hr.1 hr.2 hB.size).mono fun e w' ⟨he, hA⟩ => ⟨he, h.of hS hA⟩
theorem WS.add (v : Int) : Calls Tryz.prog 282 #[.pointer (some ⟨B.cb, 0, none⟩), .int .u64 a, .int .u64 v] w fun e w' => e = .returned (.int .u64 (s.val a)) ∧ WS w0 w' B V (s.acc 4 a (wu (s.val a + v))) ∧ Fr wTy true w w' := by
  obtain ⟨⟨S, hS⟩, hB⟩ := h.own
  exact (add_any w _ B.cb s S hS a v ha hr.1 hr.2 hB.size).mono fun e w' ⟨he, hA⟩ => ⟨he, h.of hS hA⟩
theorem WS.cas (x y : Int) (hy : (Lit.int .u64 y).wf = true) : Calls Tryz.prog 159 #[.pointer (some ⟨B.cb, 0, none⟩), .int .u64 a, .int .u64 x, .int .u64 y] w fun e w' => e = .returned (.tuple #[.int .u64 (s.val a), .bool (s.val a == x)]) ∧
    WS w0 w' B V (s.acc 3 a (if s.val a = x then y else s.val a)) ∧ Fr wTy true w w' := by
  obtain ⟨⟨S, hS⟩, hB⟩ := h.own
  exact (cas_any w _ B.cb s S hS a x y ha hy hr.1 hr.2 hB.size).mono fun e w' ⟨he, hA⟩ => ⟨he, h.of hS hA⟩
end
theorem WS.c0 {w0 w : World} {B : WB} {V : WV} {s : CS} (h : WS w0 w B V s) : w.cell? ⟨B.wb, 0, none⟩ = some (.pointer (some ⟨B.cb, 0, none⟩)) := (h.cell 0).trans (val_at B V h.tkl).1
theorem far_rooms {s : CS} {x : RS} {m : Nat} (hf : Far s x m) (ha : Alike s x) (hm : m ≤ 90000) : s.room ∧ x.room := by
  obtain ⟨h1, h2, h3⟩ := hf
  refine ⟨CS.room_of m ⟨h1, h2⟩ (by unfold lim; omega), by omega, ?_⟩
  rw [← ha.cnt]; omega
set_option maxRecDepth 10000 in
set_option maxHeartbeats 1000000 in
theorem pstore_any {w0 w : World} {B R : WB} {V : WV} {s : CS} {x : RS} (h : Pr w0 w B R V s x) (m : Nat) (hf : Far s x m) (hm : m ≤ 90000) (a v : Int) (ha : (Lit.int .u64 a).wf = true) (hv : (Lit.int .u64 v).wf = true) :
    Calls Tryz.prog 13 #[.agg #[.pointer (some ⟨B.wb, 0, none⟩), .pointer (some ⟨R.wb, 0, none⟩)], .agg #[.int .u64 a, .int .u64 v]] w fun e w' => e = .returned (.tuple #[]) ∧ Pr w0 w' B R V (s.acc 2 a v) (x.acc 2 a v) ∧ Fr wrTy true w w' := by
  obtain ⟨w1, hw1⟩ : ∃ w1, w1 = (w.alloc (.cells #[.pointer (some ⟨B.wb, 0, none⟩), .pointer (some ⟨R.wb, 0, none⟩)] 34)).alloc (.cells #[.int .u64 a, .int .u64 v] 41) := ⟨_, rfl⟩
  have hB1 : Below w.heap.size w w1 := by rw [hw1]; exact ((Below.refl _ _).alloc (Nat.le_refl _) _).alloc (by simp) _
  have hq1 : w1.heap[w.heap.size]? = some (.cells #[.pointer (some ⟨B.wb, 0, none⟩), .pointer (some ⟨R.wb, 0, none⟩)] 34 (0, 0)) := by rw [hw1]; exact heap_alloc_old (heap_alloc_new w _)
  have hq2 : w1.heap[w.heap.size + 1]? = some (.cells #[.int .u64 a, .int .u64 v] 41 (0, 0)) := by rw [hw1]; exact heap_alloc_at _ _ (by simp)
  have h1 := h.keep hB1
  obtain ⟨hr1, hr2⟩ := far_rooms hf h.al hm
  have hst : ∀ W, Below w1.heap.size w1 W → Calls Tryz.prog 41 #[.pointer (some ⟨B.cb, 0, none⟩), .int .u64 a, .int .u64 v] W fun e w' => e = .returned (.int .u64 (s.val a)) ∧ WS w0 w' B V (s.acc 2 a v) ∧ Fr wTy true W w' := fun W hW => (h1.ws.keep hW).store hr1 a ha v hv
  have x0 := fun st : ExtW w1 => st.cell (hcell hq1 0)
  have x1 := fun st : ExtW w1 => st.cell (hcell hq2 0)
  have x2 := fun st : ExtW w1 => st.cell (hcell hq2 1)
  have x3 := fun st : ExtW w1 => st.cell h1.ws.c0
  have H := Lib.hid h1; have HS := Lib.hid hst; have HQ1 := Lib.hid hq1; have HQ2 := Lib.hid hq2; have HB1 := Lib.hid hB1; have HA := Lib.hid ha; have HV := Lib.hid hv; have HR := Lib.hid hr2; have HAL := Lib.hid h.al
  clear h h1 hf hst hq1 hq2 hB1 ha hv hr1 hr2
  go_enter Tryz.func13, Tryz.ntmps13
  go_wp2_with fail
  rw [← hw1]
  clear hw1
  refine wp_region_segs [9] (by kernel_rfl) (by kernel_rfl) (by kernel_rfl) ?_
  simp only [Segs, List.take_succ_cons, List.take_zero, List.drop_succ_cons, List.drop_zero]
  repeat (go_big_quiet_step (fail))
  refine wpQuiet_nil ?_
  rintro W ⟨⟨W2, hW⟩, rfl⟩
  clear x0 x1 x2 x3
  refine seg_call rfl (by kernel_rfl) 41 #[.pointer (some ⟨B.cb, 0, none⟩), .int .u64 a, .int .u64 v] (by kernel_rfl) ?_
  refine (HS.out _ hW).mono ?_
  rintro e w2 ⟨rfl, h2, f2⟩
  refine ⟨_, rfl, ?_⟩
  have hq1 := f2.cells _ _ _ _ ((hW.block _ (Array.getElem?_eq_some_iff.1 HQ1.out).1).trans HQ1.out) rfl
  have hq2 := f2.cells _ _ _ _ ((hW.block _ (Array.getElem?_eq_some_iff.1 HQ2.out).1).trans HQ2.out) rfl
  have hrd := (H.out.rd.keep hW).byw f2 h2.below
  have F2 : Hid (Fr wrTy true w w2) := ((below_fr HB1.out _ _).trans (below_fr hW _ _)).trans (wr_of_w f2)
  have H2 := Lib.hid h2; have HRD := Lib.hid hrd; have HQ3 := Lib.hid hq1; have HQ4 := Lib.hid hq2
  clear hW h2 f2 hrd hq1 hq2
  refine wpQuiet_nil ?_
  rintro W3 ⟨⟨W4, hW4⟩, rfl⟩
  have hq1 := (hW4.block _ (Array.getElem?_eq_some_iff.1 HQ3.out).1).trans HQ3.out
  have hq2 := (hW4.block _ (Array.getElem?_eq_some_iff.1 HQ4.out).1).trans HQ4.out
  have y0 := hcell hq1 1
  have y1 := hcell hq2 0
  have y2 := hcell hq2 1
  have hrs := rwstore (HRD.out.keep hW4) HR.out a HA.out v HV.out
  have H3 := Lib.hid (H2.out.keep hW4); have F3 : Hid (Fr wrTy true w W3) := F2.out.trans (below_fr hW4 _ _)
  clear hq1 hq2 hW4
  go_wp2_with (go_at_call 54; refine hrs.mono ?_; rintro e w5 ⟨rfl, h5, f5⟩)
  go_end0
  exact ⟨rfl, ⟨H3.out.byr f5 h5.below, h5, HAL.out.acc 2 a v⟩, F3.out.trans (wr_of_r f5)⟩
theorem WS.item {w0 w : World} {B : WB} {V : WV} {s : CS} (h : WS w0 w B V s) (y : Itm) (hl : V.its.length < 1048576) : Calls Tryz.prog 79 #[.pointer (some ⟨B.ib, 0, none⟩), .agg #[.string (y).key, .string (y).val, .int .u32 (y).flags, .int .u64 (y).id, .int .i64 (y).dies, .int .i64 (y).gen]] w fun e w' =>
    e = .returned (.tuple #[.int .i64 (V.its.length + 1 : Nat), .int .i64 0]) ∧ WS w0 w' B { V with its := V.its ++ [y] } s ∧ Fr wTy true w w' := by
  obtain ⟨S, hA⟩ := h.ar
  refine (add_lit y _ B.ib V.its S w hA h.below.size hl).mono fun e w' ⟨he, S', h1, h2, h3⟩ => ⟨he, ?_⟩
  have hB : Below w0.heap.size w0 w' := keeps_below h2 h.below h.below.size fun k hk => (hA.fp k hk).1
  have hf : Fr (fun T => T == 242 || T == 248 || T == 250) false w w' := keeps_fr h2 _ _ fun k hk => by
    obtain ⟨cs, T, e1, e2⟩ := hA.ty k hk
    exact ⟨cs, T, _, e1, by rcases e2 with rfl | rfl | rfl <;> rfl⟩
  refine ⟨⟨h.own.fr hf hB rfl rfl, hf.cells _ _ _ _ h.blk rfl, h.lo, ⟨S', h1⟩, h.nt.fr hf rfl rfl, h.tkl, h.fmk.fr h.own hf rfl⟩, hf.mono (fun T hT => ?_) (fun h => by cases h)⟩
  unfold wTy at hT; simp only [Bool.or_eq_false_iff] at hT
  simp only [Bool.or_eq_false_iff]
  exact ⟨⟨hT.1.1.1.1.2, hT.1.1.1.2⟩, hT.1.1.2⟩
theorem RD.item {w0 w : World} {B : WB} {V : WV} {x : RS} (h : RD w0 w B V x) (y : Itm) (hl : V.its.length < 1048576) : Calls Tryz.prog 100 #[.pointer (some ⟨B.ib, 0, none⟩), .agg #[.string (y).key, .string (y).val, .int .u32 (y).flags, .int .u64 (y).id, .int .i64 (y).dies, .int .i64 (y).gen]] w fun e w' =>
    e = .returned (.tuple #[.int .i64 (V.its.length + 1 : Nat), .int .i64 0]) ∧ RD w0 w' B { V with its := V.its ++ [y] } x ∧ Fr rTy false w w' := by
  obtain ⟨S, hA⟩ := h.ar
  obtain ⟨lv, hr⟩ := h.ref
  refine (iradd_any y _ B.ib _ V.its S w hA h.below.size rfl hl).mono fun e w' ⟨he, S', h1, h2, h3⟩ => ⟨he, ?_⟩
  have hB : Below w0.heap.size w0 w' := keeps_below h2 h.below h.below.size fun k hk => (hA.fp k hk).1
  have hf : Fr (fun T => T == 223 || T == 80) false w w' := keeps_fr h2 _ _ fun k hk => by
    obtain ⟨cs, T, e1, e2⟩ := hA.ty k hk
    exact ⟨cs, T, _, e1, by rcases e2 with rfl | rfl <;> rfl⟩
  refine ⟨⟨hB, ⟨lv, hf.cells _ _ _ _ hr.hdr rfl, hr.lo, own_fr hr.row hf rfl, hr.wf⟩, hf.cells _ _ _ _ h.blk rfl, h.lo, ⟨S', h1⟩, h.nt.fr hf rfl rfl, h.tkl⟩, hf.mono (fun T hT => ?_) id⟩
  unfold rTy at hT; simp only [Bool.or_eq_false_iff] at hT
  simp only [Bool.or_eq_false_iff]
  exact ⟨hT.1.1.1.2, hT.1.1.2⟩
set_option maxRecDepth 10000 in
set_option maxHeartbeats 1000000 in
theorem pitem_any {w0 w : World} {B R : WB} {V : WV} {s : CS} {x : RS} (h : Pr w0 w B R V s x) (y : Itm) (hl : V.its.length < 1048576) :
    Calls Tryz.prog 28 #[.agg #[.pointer (some ⟨B.wb, 0, none⟩), .pointer (some ⟨R.wb, 0, none⟩)], .agg #[.string (y).key, .string (y).val, .int .u32 (y).flags, .int .u64 (y).id, .int .i64 (y).dies, .int .i64 (y).gen]] w fun e w' => e = .returned (.tuple #[]) ∧ Pr w0 w' B R { V with its := V.its ++ [y] } s x ∧ Fr wrTy true w w' := by
  obtain ⟨w1, hw1⟩ : ∃ w1, w1 = (w.alloc (.cells #[.pointer (some ⟨B.wb, 0, none⟩), .pointer (some ⟨R.wb, 0, none⟩)] 34)).alloc (.cells y.cells.toArray 80) := ⟨_, rfl⟩
  have hB1 : Below w.heap.size w w1 := by rw [hw1]; exact ((Below.refl _ _).alloc (Nat.le_refl _) _).alloc (by simp) _
  have hq1 : w1.heap[w.heap.size]? = some (.cells #[.pointer (some ⟨B.wb, 0, none⟩), .pointer (some ⟨R.wb, 0, none⟩)] 34 (0, 0)) := by rw [hw1]; exact heap_alloc_old (heap_alloc_new w _)
  have hq2 : Box w1 (w.heap.size + 1) y := by unfold Box; rw [hw1]; exact heap_alloc_at _ _ (by simp)
  have h1 := h.keep hB1
  have hst : ∀ W, Below w1.heap.size w1 W → Calls Tryz.prog 79 #[.pointer (some ⟨B.ib, 0, none⟩), .agg #[.string (y).key, .string (y).val, .int .u32 (y).flags, .int .u64 (y).id, .int .i64 (y).dies, .int .i64 (y).gen]] W fun e w' => e = .returned (.tuple #[.int .i64 (V.its.length + 1 : Nat), .int .i64 0]) ∧ WS w0 w' B { V with its := V.its ++ [y] } s ∧ Fr wTy true W w' := fun W hW => (h1.ws.keep hW).item y hl
  obtain ⟨c0, c1, c2, c3, c4, c5⟩ := hq2.cells
  have x0 := fun st : ExtW w1 => st.cell (hcell hq1 0)
  have z0 := fun st : ExtW w1 => st.cell c0
  have z1 := fun st : ExtW w1 => st.cell c1
  have z2 := fun st : ExtW w1 => st.cell c2
  have z3 := fun st : ExtW w1 => st.cell c3
  have z4 := fun st : ExtW w1 => st.cell c4
  have z5 := fun st : ExtW w1 => st.cell c5
  have x3 := fun st : ExtW w1 => st.cell ((h1.ws.cell 1).trans (val_at B V h1.ws.tkl).2.1)
  have H := Lib.hid h1; have HS := Lib.hid hst; have HQ1 := Lib.hid hq1; have HQ2 := Lib.hid hq2; have HB1 := Lib.hid hB1; have HL := Lib.hid hl
  clear h h1 hst hq1 hq2 hB1 hl c0 c1 c2 c3 c4 c5
  go_enter Tryz.func28, Tryz.ntmps28
  go_wp2_with fail
  change Code.wp _ _ _ _ ((w.alloc (.cells #[.pointer (some ⟨B.wb, 0, none⟩), .pointer (some ⟨R.wb, 0, none⟩)] 34)).alloc (.cells y.cells.toArray 80))
  rw [← hw1]
  clear hw1
  refine wp_region_segs [6] (by kernel_rfl) (by kernel_rfl) (by kernel_rfl) ?_
  simp only [Segs, List.take_succ_cons, List.take_zero, List.drop_succ_cons, List.drop_zero]
  repeat (go_big_quiet_step (fail))
  refine wpQuiet_nil ?_
  rintro W ⟨⟨W2, hW⟩, rfl⟩
  clear x0 x3 z0 z1 z2 z3 z4 z5
  refine seg_call rfl (by kernel_rfl) 79 #[.pointer (some ⟨B.ib, 0, none⟩), .agg #[.string (y).key, .string (y).val, .int .u32 (y).flags, .int .u64 (y).id, .int .i64 (y).dies, .int .i64 (y).gen]] (by kernel_rfl) ?_
  refine (HS.out _ hW).mono ?_
  rintro e w2 ⟨rfl, h2, f2⟩
  refine ⟨_, rfl, ?_⟩
  simp only [List.getElem_toArray, List.getElem_cons_succ, List.getElem_cons_zero]
  go_frame
  have hq1 := f2.cells _ _ _ _ ((hW.block _ (Array.getElem?_eq_some_iff.1 HQ1.out).1).trans HQ1.out) rfl
  have hq2 : Box w2 (w.heap.size + 1) y := f2.cells _ _ _ _ (HQ2.out.below hW) rfl
  have hrd := (H.out.rd.keep hW).byw f2 h2.below
  have F2 : Hid (Fr wrTy true w w2) := ((below_fr HB1.out _ _).trans (below_fr hW _ _)).trans (wr_of_w f2)
  have H2 := Lib.hid h2; have HRD := Lib.hid hrd; have HQ3 := Lib.hid hq1; have HQ4 := Lib.hid hq2
  clear hW h2 f2 hrd hq1 hq2
  refine wpQuiet_nil ?_
  rintro W3 ⟨⟨W4, hW4⟩, rfl⟩
  have hq1 := (hW4.block _ (Array.getElem?_eq_some_iff.1 HQ3.out).1).trans HQ3.out
  have hq2 : Box W3 (w.heap.size + 1) y := HQ4.out.below hW4
  have hrd := HRD.out.keep hW4
  obtain ⟨c0, c1, c2, c3, c4, c5⟩ := hq2.cells
  have x0 := fun st : ExtW W3 => st.cell (hcell hq1 1)
  have z0 := fun st : ExtW W3 => st.cell c0
  have z1 := fun st : ExtW W3 => st.cell c1
  have z2 := fun st : ExtW W3 => st.cell c2
  have z3 := fun st : ExtW W3 => st.cell c3
  have z4 := fun st : ExtW W3 => st.cell c4
  have z5 := fun st : ExtW W3 => st.cell c5
  have x3 := fun st : ExtW W3 => st.cell ((hrd.cell 1).trans (val_at R V hrd.tkl).2.1)
  have H3 := Lib.hid (H2.out.keep hW4); have F3 : Hid (Fr wrTy true w W3) := F2.out.trans (below_fr hW4 _ _)
  have HR3 := Lib.hid hrd
  clear hq1 hq2 hW4 hrd c0 c1 c2 c3 c4 c5
  go_wp2_with fail
  refine wp_region_segs [6] (by kernel_rfl) (by kernel_rfl) (by kernel_rfl) ?_
  simp only [Segs, List.take_succ_cons, List.take_zero, List.drop_succ_cons, List.drop_zero]
  repeat (go_big_quiet_step (fail))
  refine wpQuiet_nil ?_
  rintro W5 ⟨⟨W6, hW6⟩, rfl⟩
  clear x0 x3 z0 z1 z2 z3 z4 z5
  refine seg_call rfl (by kernel_rfl) 100 #[.pointer (some ⟨R.ib, 0, none⟩), .agg #[.string (y).key, .string (y).val, .int .u32 (y).flags, .int .u64 (y).id, .int .i64 (y).dies, .int .i64 (y).gen]] (by kernel_rfl) ?_
  refine ((HR3.out.keep hW6).item y HL.out).mono ?_
  rintro e w7 ⟨rfl, h7, f7⟩
  refine ⟨_, rfl, ?_⟩
  have hws := (H3.out.keep hW6).byr f7 h7.below
  have F7 : Hid (Fr wrTy true w w7) := (F3.out.trans (below_fr hW6 _ _)).trans (wr_of_r f7)
  have H7 := Lib.hid h7; have HW7 := Lib.hid hws
  clear hW6 h7 f7 hws
  refine wpQuiet_nil ?_
  rintro W8 ⟨⟨W9, hW9⟩, rfl⟩
  have HF : Hid (Pr w0 W8 B R { V with its := V.its ++ [y] } s x ∧ Fr wrTy true w W8) := ⟨⟨HW7.out.keep hW9, H7.out.keep hW9, H.out.al⟩, F7.out.trans (below_fr hW9 _ _)⟩
  clear hW9
  go_wp2
  go_end0
  exact ⟨rfl, HF.out⟩
set_option maxRecDepth 10000 in
set_option maxHeartbeats 1000000 in
theorem WS.tick {w0 w : World} {B : WB} {V : WV} {s : CS} (h : WS w0 w B V s) (hr : s.room) : Calls Tryz.prog 101 #[.pointer (some ⟨B.wb, 0, none⟩)] w fun e w' => e = .returned (.tuple #[]) ∧ WS w0 w' B V (s.acc 3 8 (eTick (s.val 8))) ∧ Fr wTy true w w' := by
  have c0 := h.c0
  have x0 := fun st : ExtW w => st.cell c0
  have hk := peek_own h.own 8 (by decide)
  have hv := h.own.wf 8
  obtain ⟨x, hx⟩ : ∃ x, x = s.val 8 := ⟨_, rfl⟩
  have ht : ∀ st : ExtW w, Calls Tryz.prog 160 #[.int .u64 x] st.val fun e w' => e = .returned (.int .u64 (eTick x)) ∧ Below st.val.heap.size st.val w' := fun st => etick_any x (by rw [hx]; exact hv) st.val
  have HH := Lib.hid h
  have HR := Lib.hid hr
  rw [← hx] at hk ⊢
  have HX := Lib.hid hx
  clear h hr hv hx
  go_enter Tryz.func101, Tryz.ntmps101
  go_wp2_with (go_at_call 142; refine hk.mono ?_; rintro e w' ⟨rfl, rfl⟩)
  refine wp_region_ext_tail 7 (by kernel_rfl) (by kernel_rfl) ?_
  simp only [List.take_succ_cons, List.take_zero, List.drop_succ_cons, List.drop_zero]
  repeat (go_big_quiet_step ((go_at_call 160; with_reducible refine calls_ext (ht _))))
  refine wpQuiet_nil ?_
  rintro W ⟨⟨W2, hW⟩, rfl⟩
  clear x0 ht
  have hf := HH.out.keep hW
  have hs := HX.out
  have hcas := hf.cas HR.out 8 (by decide) x (eTick x) (etick_wf x)
  rw [← hs, if_pos rfl] at hcas
  have HW := Lib.hid (below_fr hW wTy true)
  clear hs hf hW
  go_wp2_with (go_at_call 159; refine hcas.mono ?_; rintro e w1 ⟨rfl, h1, h2⟩)
  go_end0
  exact ⟨rfl, h1, HW.out.trans h2⟩
theorem ptick_any {w0 w : World} {B R : WB} {V : WV} {s : CS} {x : RS} (h : Pr w0 w B R V s x) (m : Nat) (hf : Far s x m) (hm : m ≤ 90000) :
    Calls Tryz.prog 29 #[.agg #[.pointer (some ⟨B.wb, 0, none⟩), .pointer (some ⟨R.wb, 0, none⟩)]] w fun e w' => e = .returned (.tuple #[]) ∧ Pr w0 w' B R V (s.acc 3 8 (eTick (s.val 8))) (x.acc 3 8 (eTick (s.val 8))) ∧ Fr wrTy true w w' := by
  obtain ⟨w1, hw1⟩ : ∃ w1, w1 = w.alloc (.cells #[.pointer (some ⟨B.wb, 0, none⟩), .pointer (some ⟨R.wb, 0, none⟩)] 34) := ⟨_, rfl⟩
  have hB1 : Below w.heap.size w w1 := by rw [hw1]; exact (Below.refl _ _).alloc (Nat.le_refl _) _
  have hq1 : w1.heap[w.heap.size]? = some (.cells #[.pointer (some ⟨B.wb, 0, none⟩), .pointer (some ⟨R.wb, 0, none⟩)] 34 (0, 0)) := by rw [hw1]; exact heap_alloc_new w _
  have h1 := h.keep hB1
  obtain ⟨hr1, hr2⟩ := far_rooms hf h.al hm
  have x0 := hcell hq1 0
  have hv8 := congrFun h.al.val 8
  have ht := h1.ws.tick hr1
  have H := Lib.hid h1; have HQ1 := Lib.hid hq1; have HB1 := Lib.hid hB1; have HR := Lib.hid hr2; have HV := Lib.hid hv8
  clear h h1 hf hq1 hB1 hr1 hr2 hv8
  go_enter Tryz.func29, Tryz.ntmps29
  go_wp2_with fail
  rw [← hw1]
  clear hw1
  go_wp2_with (go_at_call 101; refine ht.mono ?_; rintro e w2 ⟨rfl, h2, f2⟩; have hq2 := f2.cells _ _ _ _ HQ1.out rfl; have y0 := hcell hq2 1; clear x0 hq2; have HRD := Lib.hid (H.out.rd.byw f2 h2.below); have H2 := Lib.hid h2; have F2 := Lib.hid (wr_of_w f2); clear h2 f2)
  have hrt := rwtick HRD.out HR.out
  rw [← HV.out] at hrt
  go_wp2_with (go_at_call 102; refine hrt.mono ?_; rintro e w3 ⟨rfl, h3, f3⟩)
  go_end0
  exact ⟨rfl, ⟨H2.out.byr f3 h3.below, h3, H.out.al.acc _ _ _⟩, ((below_fr HB1.out _ _).trans F2.out).trans (wr_of_r f3)⟩
end Go.Proofs.YtmakjfeepmiggaaGreat