import Derived.Test.YtmakjfeepmiggaaGreatZ13
namespace Go.Proofs.YtmakjfeepmiggaaGreat
open Go.RowKit
set_option linter.unusedVariables false
theorem fr_fx {w w' : World} (b : Nat) (F : Fr wTy true w w') : Fx wTy true b w w' := ⟨F.size, fun k cs T fr h1 h2 _ => F.cells k cs T fr h1 h2, fun h => by cases h⟩
section
variable {w0 w : World} {B : WB} {V : WV} {s : CS} {b : Nat} {σ : SL} (h : WS w0 w B V s) (hr : s.room)
include h hr
set_option maxRecDepth 10000 in
set_option maxHeartbeats 1000000 in
theorem put_first {g r : Int} (hS : SlotAt w b 261 σ [.int .i64 g, .int .i64 r]) (hi : (Lit.int .u64 σ.it).wf = true) (hrr : 0 ≤ r ∧ r < 9223372036854775808) : Calls Tryz.prog 274 #[.pointer (some ⟨b, 0, none⟩), .pointer (some ⟨B.wb, 0, none⟩)] w fun e w' => e = .returned (.tuple #[]) ∧ WS w0 w' B V (s.acc 2 σ.it r) ∧ Fr wTy true w w' := by
  have e1 : IntKind.u64.wrap r = r := by rw [IntKind.wrap_u64]; omega
  have hst : ∀ W, Below w.heap.size w W → Calls Tryz.prog 41 #[.pointer (some ⟨B.cb, 0, none⟩), .int .u64 σ.it, .int .u64 r] W fun e w' => e = .returned (.int .u64 (s.val σ.it)) ∧ WS w0 w' B V (s.acc 2 σ.it r) ∧ Fr wTy true W w' := fun W hW => (h.keep hW).store hr _ hi _ (bd_wf (by omega))
  have x0 := fun st : ExtW w => st.cell h.c0
  have x1 := fun st : ExtW w => st.cell hS.c1
  have x6 : ∀ st : ExtW w, st.val.cell? ⟨b, 6, none⟩ = some (.int .i64 r) := fun st => st.cell (by rw [hcell hS 6]; rfl)
  have HST := Lib.hid hst
  clear h hr hS hi hst hrr
  go_enter Tryz.func274, Tryz.ntmps274
  go_wp2_with fail
  refine wp_region_ext_tail 14 (by kernel_rfl) (by kernel_rfl) ?_
  simp only [List.take_succ_cons, List.take_zero, List.drop_succ_cons, List.drop_zero]
  repeat (go_big_quiet_step (fail))
  refine wpQuiet_nil ?_
  rintro W ⟨⟨W2, hW⟩, rfl⟩
  have hsw := HST.out _ hW
  have HW := Lib.hid hW
  clear x0 x1 x6 hW
  go_wp2_with (go_at_call 41; refine hsw.mono ?_; rintro e w2 ⟨rfl, h2, f2⟩)
  go_end0
  exact ⟨rfl, h2, (below_fr HW.out wTy true).trans f2⟩
theorem put_second {rest : List Value} (hlo : w0.heap.size ≤ b) (hS : SlotAt w b 261 σ rest) (hg : (Lit.int .u64 σ.tg).wf = true) : Calls Tryz.prog 275 #[.pointer (some ⟨b, 0, none⟩), .pointer (some ⟨B.wb, 0, none⟩)] w fun e w' => e = .returned (.tuple #[]) ∧ WS w0 w' B V (s.acc 1 σ.tg (s.val σ.tg)) ∧ SlotAt w' b 261 { σ with x := s.val σ.tg } rest ∧ Fx wTy true b w w' := by
  have hl := slot_load h hr hS rfl hlo hg
  have y0 := hS.c0
  clear h hr hS hg
  go_enter Tryz.func275, Tryz.ntmps275
  go_wp2_with (go_at_call 277; refine hl.mono ?_; rintro e w2 ⟨rfl, h2⟩)
  go_end0
  exact ⟨rfl, h2⟩
theorem out_first {rest : List Value} (hlo : w0.heap.size ≤ b) (hS : SlotAt w b 360 σ rest) (hg : (Lit.int .u64 σ.tg).wf = true) : Calls Tryz.prog 290 #[.pointer (some ⟨b, 0, none⟩), .pointer (some ⟨B.wb, 0, none⟩)] w fun e w' => e = .returned (.tuple #[]) ∧ WS w0 w' B V (s.acc 1 σ.tg (s.val σ.tg)) ∧ SlotAt w' b 360 { σ with x := s.val σ.tg } rest ∧ Fx wTy true b w w' := by
  have hl := slot_load h hr hS rfl hlo hg
  have y0 := hS.c0
  clear h hr hS hg
  go_enter Tryz.func290, Tryz.ntmps290
  go_wp2_with (go_at_call 277; refine hl.mono ?_; rintro e w2 ⟨rfl, h2⟩)
  go_end0
  exact ⟨rfl, h2⟩
theorem out_second {rest : List Value} (hS : SlotAt w b 360 σ rest) (hg : (Lit.int .u64 σ.tg).wf = true) (hx : 0 ≤ σ.x ∧ σ.x < 18446744073709551616) : Calls Tryz.prog 291 #[.pointer (some ⟨b, 0, none⟩), .pointer (some ⟨B.wb, 0, none⟩)] w fun e w' => e = .returned (.tuple #[]) ∧ WS w0 w' B V (s.acc 2 σ.tg (TagPure.withOf σ.x σ.at_ 0)) ∧ Fr wTy true w w' := by
  have hl := slot_store h hr hS hg 0 hx
  have y0 := hS.c0
  clear h hr hS hg hx
  go_enter Tryz.func291, Tryz.ntmps291
  go_wp2_with (go_at_call 278; refine hl.mono ?_; rintro e w2 ⟨rfl, h2⟩)
  go_end0
  exact ⟨rfl, h2⟩
set_option maxRecDepth 10000 in
set_option maxHeartbeats 1000000 in
theorem put_third {g r : Int} (hS : SlotAt w b 261 σ [.int .i64 g, .int .i64 r]) (hg : (Lit.int .u64 σ.tg).wf = true) (hx : 0 ≤ σ.x ∧ σ.x < 18446744073709551616) : Calls Tryz.prog 276 #[.pointer (some ⟨b, 0, none⟩), .pointer (some ⟨B.wb, 0, none⟩)] w fun e w' => e = .returned (.tuple #[]) ∧ WS w0 w' B V (s.acc 2 σ.tg (TagPure.withOf σ.x σ.at_ g)) ∧ Fr wTy true w w' := by
  have hl : ∀ W, Below w.heap.size w W → Calls Tryz.prog 278 #[.pointer (some ⟨b, 0, none⟩), .pointer (some ⟨B.wb, 0, none⟩), .int .i64 g] W fun e w' => e = .returned (.tuple #[]) ∧ WS w0 w' B V (s.acc 2 σ.tg (TagPure.withOf σ.x σ.at_ g)) ∧ Fr wTy true W w' := fun W hW => slot_store (h.keep hW) hr (hS.below hW) hg g hx
  have x0 := fun st : ExtW w => st.cell hS.c0
  have x5 : ∀ st : ExtW w, st.val.cell? ⟨b, 5, none⟩ = some (.int .i64 g) := fun st => st.cell (by rw [hcell hS 5]; rfl)
  have HL := Lib.hid hl
  clear h hr hS hg hx hl
  go_enter Tryz.func276, Tryz.ntmps276
  go_wp2_with fail
  refine wp_region_ext_tail 8 (by kernel_rfl) (by kernel_rfl) ?_
  simp only [List.take_succ_cons, List.take_zero, List.drop_succ_cons, List.drop_zero]
  repeat (go_big_quiet_step (fail))
  refine wpQuiet_nil ?_
  rintro W ⟨⟨W2, hW⟩, rfl⟩
  have hsw := HL.out _ hW
  have HW := Lib.hid hW
  clear x0 x5 hW
  go_wp2_with (go_at_call 278; refine hsw.mono ?_; rintro e w2 ⟨rfl, h2, f2⟩)
  go_end0
  exact ⟨rfl, h2, (below_fr HW.out wTy true).trans f2⟩
set_option maxRecDepth 10000 in
set_option maxHeartbeats 1000000 in
theorem out_third {rest : List Value} (hS : SlotAt w b 360 σ rest) (hi : (Lit.int .u64 σ.it).wf = true) : Calls Tryz.prog 292 #[.pointer (some ⟨b, 0, none⟩), .pointer (some ⟨B.wb, 0, none⟩)] w fun e w' => e = .returned (.tuple #[]) ∧ WS w0 w' B V (s.acc 2 σ.it 0) ∧ Fr wTy true w w' := by
  have hst : ∀ W, Below w.heap.size w W → Calls Tryz.prog 41 #[.pointer (some ⟨B.cb, 0, none⟩), .int .u64 σ.it, .int .u64 0] W fun e w' => e = .returned (.int .u64 (s.val σ.it)) ∧ WS w0 w' B V (s.acc 2 σ.it 0) ∧ Fr wTy true W w' := fun W hW => (h.keep hW).store hr _ hi _ (by decide)
  have x0 := fun st : ExtW w => st.cell h.c0
  have x00 := fun st : ExtW w => st.cell hS.c0
  have x1 := fun st : ExtW w => st.cell hS.c1
  have HST := Lib.hid hst
  clear h hr hS hi hst
  go_enter Tryz.func292, Tryz.ntmps292
  go_wp2_with fail
  refine wp_region_ext_tail 9 (by kernel_rfl) (by kernel_rfl) ?_
  simp only [List.take_succ_cons, List.take_zero, List.drop_succ_cons, List.drop_zero]
  repeat (go_big_quiet_step (fail))
  refine wpQuiet_nil ?_
  rintro W ⟨⟨W2, hW⟩, rfl⟩
  have hsw := HST.out _ hW
  have HW := Lib.hid hW
  clear x0 x00 x1 hW
  go_wp2_with (go_at_call 41; refine hsw.mono ?_; rintro e w2 ⟨rfl, h2, f2⟩)
  go_end0
  exact ⟨rfl, h2, (below_fr HW.out wTy true).trans f2⟩
end
abbrev fv (f : Fn) : Value := .func f #[] #[]
theorem puts_any (w : World) : Calls Tryz.prog 273 #[] w fun e w' => e = .returned (.agg #[fv (.func 274), fv (.func 275), fv (.func 276)]) ∧ Below w.heap.size w w' := by
  go_enter Tryz.func273, Tryz.ntmps273
  go_wp2
  refine bodyPost_ret (v := .agg #[fv (.func 274), fv (.func 275), fv (.func 276)]) (by simp [results, Tryz.results273, go_sem]) rfl ⟨rfl, ?_⟩
  exact below_alloc' _ _
set_option maxRecDepth 10000 in
theorem Putover {w : World} {b : Nat} {σ : SL} {rest : List Value} (hS : SlotAt w b 261 σ rest) (a c : Bool) (ha : (σ.tg == 0) = a) (hc : (σ.ln == 3) = c) : Calls Tryz.prog 271 #[.pointer (some ⟨b, 0, none⟩)] w fun e w' => e = .returned (.bool (a || c)) ∧ Below w.heap.size w w' := by
  have x0 := fun st : ExtW w => st.cell hS.c0
  have x4 := fun st : ExtW w => st.cell hS.c4
  have hp := fun {w : World} (st : ExtW w) => puts_any st.val
  clear hS
  cases a
  all_goals
    go_enter Tryz.func271, Tryz.ntmps271
    go_wp2_with fail
    refine wp_region_ext (by kernel_rfl) (by kernel_rfl) ?_
    repeat (go_big_quiet_step ((go_at_call 273; with_reducible refine calls_ext (hp _))))
    refine wpQuiet_nil ?_
    rintro W ⟨⟨W2, hW⟩, rfl⟩
    clear x0 x4
    go_wp2
    go_ret
    exact ⟨by simp, hW⟩
theorem outs_any (w : World) : Calls Tryz.prog 289 #[] w fun e w' => e = .returned (.agg #[fv (.func 290), fv (.func 291), fv (.func 292)]) ∧ Below w.heap.size w w' := by
  go_enter Tryz.func289, Tryz.ntmps289
  go_wp2
  refine bodyPost_ret (v := .agg #[fv (.func 290), fv (.func 291), fv (.func 292)]) (by simp [results, Tryz.results289, go_sem]) rfl ⟨rfl, ?_⟩
  exact below_alloc' _ _
set_option maxRecDepth 10000 in
theorem Outover {w : World} {b : Nat} {σ : SL} {rest : List Value} (hS : SlotAt w b 360 σ rest) (a c : Bool) (ha : (σ.tg == 0) = a) (hc : (σ.ln == 3) = c) : Calls Tryz.prog 287 #[.pointer (some ⟨b, 0, none⟩)] w fun e w' => e = .returned (.bool (a || c)) ∧ Below w.heap.size w w' := by
  have x0 := fun st : ExtW w => st.cell hS.c0
  have x4 := fun st : ExtW w => st.cell hS.c4
  have hp := fun {w : World} (st : ExtW w) => outs_any st.val
  clear hS
  cases a
  all_goals
    go_enter Tryz.func287, Tryz.ntmps287
    go_wp2_with fail
    refine wp_region_ext (by kernel_rfl) (by kernel_rfl) ?_
    repeat (go_big_quiet_step ((go_at_call 289; with_reducible refine calls_ext (hp _))))
    refine wpQuiet_nil ?_
    rintro W ⟨⟨W2, hW⟩, rfl⟩
    clear x0 x4
    go_wp2
    go_ret
    exact ⟨by simp, hW⟩
theorem cell_lt {w : World} {b o : Nat} {v : Value} (h : w.cell? ⟨b, o, none⟩ = some v) : b < w.heap.size := by
  unfold World.cell? at h; simp only at h
  rcases Nat.lt_or_ge b w.heap.size with h1 | h1
  · exact h1
  · rw [Array.getElem?_eq_none h1] at h; cases h
set_option maxRecDepth 10000 in
set_option maxHeartbeats 1000000 in
theorem put_step0 {w0 w : World} {B : WB} {V : WV} {s : CS} {b : Nat} {σ : SL} {g r : Int} (h : WS w0 w B V s) (hr : s.room) (hlo : w0.heap.size ≤ b) (hS : SlotAt w b 261 σ [.int .i64 g, .int .i64 r]) (hz : σ.tg ≠ 0) (hg : (Lit.int .u64 σ.tg).wf = true) (hl : σ.ln = 0) (hi : (Lit.int .u64 σ.it).wf = true) (hrr : 0 ≤ r ∧ r < 9223372036854775808) :
    Calls Tryz.prog 272 #[.pointer (some ⟨b, 0, none⟩), .pointer (some ⟨B.wb, 0, none⟩)] w fun e w' => e = .returned (.bool false) ∧ WS w0 w' B V (s.acc 2 σ.it r) ∧ SlotAt w' b 261 { σ with ln := 1 } [.int .i64 g, .int .i64 r] ∧ Fx wTy true b w w' := by
  have hz' : (σ.tg == 0) = false := beq_eq_false_iff_ne.2 hz
  have ho := Putover hS false false hz' (by rw [hl]; rfl)
  have hcallee : ∀ W, Below w.heap.size w W → Calls Tryz.prog 274 #[.pointer (some ⟨b, 0, none⟩), .pointer (some ⟨B.wb, 0, none⟩)] W fun e w' => e = .returned (.tuple #[]) ∧ WS w0 w' B V (s.acc 2 σ.it r) ∧ SlotAt w' b 261 (σ) [.int .i64 g, .int .i64 r] ∧ Fx wTy true b W w' := fun W hW =>
    (put_first (h.keep hW) hr (hS.below hW) hi hrr).mono fun e w' ⟨he, hw, hf⟩ => ⟨he, hw, hf.cells _ _ _ _ (hS.below hW) rfl, fr_fx b hf⟩
  have hln : (σ).ln = 0 := hl
  have hso : ((σ).tg == 0) = false := hz'
  have hidx : ∀ W : World, (Instr.index 377 (.agg #[fv (.func 274), fv (.func 275), fv (.func 276)]) (.int .i64 0)).run Tryz.prog W = .ok (fv (.func 274)) W := fun W => by kernel_rfl
  have hp := fun {w : World} (st : ExtW w) => puts_any st.val
  have hc4 := hS.c4
  rw [hl] at hc4
  have HC := Lib.hid hcallee; have H0 := Lib.hid hln; have HSO := Lib.hid hso
  clear h hr hS hg hcallee hl hz hz' hln hso hi hrr
  go_enter Tryz.func272, Tryz.ntmps272
  go_upto_region 2 with (go_at_call 271; refine ho.mono ?_; rintro e w1 ⟨rfl, b1⟩; have x4 := (fun st : ExtW w1 => st.cell ((b1.cell (p := ⟨b, 4, none⟩) (cell_lt hc4)).trans hc4)); have B1 := Lib.hid b1; clear b1 ho hc4)
  refine wp_region_ext_tail 9 (by kernel_rfl) (by kernel_rfl) ?_
  simp only [List.take_succ_cons, List.take_zero, List.drop_succ_cons, List.drop_zero]
  repeat (go_big_quiet_step ((go_at_call 273; with_reducible refine calls_ext (hp _))))
  refine wpQuiet_nil ?_
  rintro W ⟨⟨W2, hW⟩, rfl⟩
  have hb2 := B1.out.trans (hW.mono B1.out.size)
  have hcw := HC.out _ hb2
  have HB2 := Lib.hid hb2
  clear x4 hp hidx hW hb2
  go_upto_region 4 with (go_at_call 274; refine hcw.mono ?_; rintro e w3 ⟨rfl, h3, s3, f3⟩; have y4 := s3.c4; rw [H0.out] at y4; have yf := hfrz s3 4; have H3 := Lib.hid h3; have S3 := Lib.hid s3; have F3 := Lib.hid f3; clear h3 s3 f3 hcw)
  have ho2 := Putover (S3.out.set4 (1)) false false HSO.out rfl
  have h4 := set_take (o := 4) H3.out S3.out rfl hlo (.int .i64 (1))
  have s4 := S3.out.set4 (1)
  have f4 := (((below_fr HB2.out wTy true).fx b).trans F3.out).trans (set_fx wTy true w3 b 4 (.int .i64 (1)))
  have H4 := Lib.hid h4; have S4 := Lib.hid s4; have F4 := Lib.hid f4
  clear h4 s4 f4 H3 S3 F3 y4 yf
  change Code.wp _ _ _ _ (w3.setCell ⟨b, 4, none⟩ (.int .i64 (1)))
  generalize w3.setCell ⟨b, 4, none⟩ (.int .i64 (1)) = W4 at *
  go_wp2_with (go_at_call 271; refine ho2.mono ?_; rintro e w5 ⟨rfl, b5⟩)
  go_ret
  exact ⟨rfl, H4.out.keep b5, S4.out.below b5, F4.out.trans ((below_fr b5 wTy true).fx b)⟩
set_option maxRecDepth 10000 in
set_option maxHeartbeats 1000000 in
theorem put_step1 {w0 w : World} {B : WB} {V : WV} {s : CS} {b : Nat} {σ : SL} {rest : List Value} (h : WS w0 w B V s) (hr : s.room) (hlo : w0.heap.size ≤ b) (hS : SlotAt w b 261 σ rest) (hz : σ.tg ≠ 0) (hg : (Lit.int .u64 σ.tg).wf = true) (hl : σ.ln = 1)  :
    Calls Tryz.prog 272 #[.pointer (some ⟨b, 0, none⟩), .pointer (some ⟨B.wb, 0, none⟩)] w fun e w' => e = .returned (.bool false) ∧ WS w0 w' B V (s.acc 1 σ.tg (s.val σ.tg)) ∧ SlotAt w' b 261 { { σ with x := s.val σ.tg } with ln := 2 } rest ∧ Fx wTy true b w w' := by
  have hz' : (σ.tg == 0) = false := beq_eq_false_iff_ne.2 hz
  have ho := Putover hS false false hz' (by rw [hl]; rfl)
  have hcallee : ∀ W, Below w.heap.size w W → Calls Tryz.prog 275 #[.pointer (some ⟨b, 0, none⟩), .pointer (some ⟨B.wb, 0, none⟩)] W fun e w' => e = .returned (.tuple #[]) ∧ WS w0 w' B V (s.acc 1 σ.tg (s.val σ.tg)) ∧ SlotAt w' b 261 ({ σ with x := s.val σ.tg }) rest ∧ Fx wTy true b W w' := fun W hW =>
    put_second (h.keep hW) hr hlo (hS.below hW) hg
  have hln : ({ σ with x := s.val σ.tg }).ln = 1 := hl
  have hso : (({ σ with x := s.val σ.tg }).tg == 0) = false := hz'
  have hidx : ∀ W : World, (Instr.index 377 (.agg #[fv (.func 274), fv (.func 275), fv (.func 276)]) (.int .i64 1)).run Tryz.prog W = .ok (fv (.func 275)) W := fun W => by kernel_rfl
  have hp := fun {w : World} (st : ExtW w) => puts_any st.val
  have hc4 := hS.c4
  rw [hl] at hc4
  have HC := Lib.hid hcallee; have H1 := Lib.hid hln; have HSO := Lib.hid hso
  clear h hr hS hg hcallee hl hz hz' hln hso 
  go_enter Tryz.func272, Tryz.ntmps272
  go_upto_region 2 with (go_at_call 271; refine ho.mono ?_; rintro e w1 ⟨rfl, b1⟩; have x4 := (fun st : ExtW w1 => st.cell ((b1.cell (p := ⟨b, 4, none⟩) (cell_lt hc4)).trans hc4)); have B1 := Lib.hid b1; clear b1 ho hc4)
  refine wp_region_ext_tail 9 (by kernel_rfl) (by kernel_rfl) ?_
  simp only [List.take_succ_cons, List.take_zero, List.drop_succ_cons, List.drop_zero]
  repeat (go_big_quiet_step ((go_at_call 273; with_reducible refine calls_ext (hp _))))
  refine wpQuiet_nil ?_
  rintro W ⟨⟨W2, hW⟩, rfl⟩
  have hb2 := B1.out.trans (hW.mono B1.out.size)
  have hcw := HC.out _ hb2
  have HB2 := Lib.hid hb2
  clear x4 hp hidx hW hb2
  go_upto_region 4 with (go_at_call 275; refine hcw.mono ?_; rintro e w3 ⟨rfl, h3, s3, f3⟩; have y4 := s3.c4; rw [H1.out] at y4; have yf := hfrz s3 4; have H3 := Lib.hid h3; have S3 := Lib.hid s3; have F3 := Lib.hid f3; clear h3 s3 f3 hcw)
  have ho2 := Putover (S3.out.set4 (2)) false false HSO.out rfl
  have h4 := set_take (o := 4) H3.out S3.out rfl hlo (.int .i64 (2))
  have s4 := S3.out.set4 (2)
  have f4 := (((below_fr HB2.out wTy true).fx b).trans F3.out).trans (set_fx wTy true w3 b 4 (.int .i64 (2)))
  have H4 := Lib.hid h4; have S4 := Lib.hid s4; have F4 := Lib.hid f4
  clear h4 s4 f4 H3 S3 F3 y4 yf
  change Code.wp _ _ _ _ (w3.setCell ⟨b, 4, none⟩ (.int .i64 (2)))
  generalize w3.setCell ⟨b, 4, none⟩ (.int .i64 (2)) = W4 at *
  go_wp2_with (go_at_call 271; refine ho2.mono ?_; rintro e w5 ⟨rfl, b5⟩)
  go_ret
  exact ⟨rfl, H4.out.keep b5, S4.out.below b5, F4.out.trans ((below_fr b5 wTy true).fx b)⟩
set_option maxRecDepth 10000 in
set_option maxHeartbeats 1000000 in
theorem put_step2 {w0 w : World} {B : WB} {V : WV} {s : CS} {b : Nat} {σ : SL} {g r : Int} (h : WS w0 w B V s) (hr : s.room) (hlo : w0.heap.size ≤ b) (hS : SlotAt w b 261 σ [.int .i64 g, .int .i64 r]) (hz : σ.tg ≠ 0) (hg : (Lit.int .u64 σ.tg).wf = true) (hl : σ.ln = 2) (hx : 0 ≤ σ.x ∧ σ.x < 18446744073709551616) :
    Calls Tryz.prog 272 #[.pointer (some ⟨b, 0, none⟩), .pointer (some ⟨B.wb, 0, none⟩)] w fun e w' => e = .returned (.bool true) ∧ WS w0 w' B V (s.acc 2 σ.tg (TagPure.withOf σ.x σ.at_ g)) ∧ SlotAt w' b 261 { σ with ln := 3 } [.int .i64 g, .int .i64 r] ∧ Fx wTy true b w w' := by
  have hz' : (σ.tg == 0) = false := beq_eq_false_iff_ne.2 hz
  have ho := Putover hS false false hz' (by rw [hl]; rfl)
  have hcallee : ∀ W, Below w.heap.size w W → Calls Tryz.prog 276 #[.pointer (some ⟨b, 0, none⟩), .pointer (some ⟨B.wb, 0, none⟩)] W fun e w' => e = .returned (.tuple #[]) ∧ WS w0 w' B V (s.acc 2 σ.tg (TagPure.withOf σ.x σ.at_ g)) ∧ SlotAt w' b 261 (σ) [.int .i64 g, .int .i64 r] ∧ Fx wTy true b W w' := fun W hW =>
    (put_third (h.keep hW) hr (hS.below hW) hg hx).mono fun e w' ⟨he, hw, hf⟩ => ⟨he, hw, hf.cells _ _ _ _ (hS.below hW) rfl, fr_fx b hf⟩
  have hln : (σ).ln = 2 := hl
  have hso : ((σ).tg == 0) = false := hz'
  have hidx : ∀ W : World, (Instr.index 377 (.agg #[fv (.func 274), fv (.func 275), fv (.func 276)]) (.int .i64 2)).run Tryz.prog W = .ok (fv (.func 276)) W := fun W => by kernel_rfl
  have hp := fun {w : World} (st : ExtW w) => puts_any st.val
  have hc4 := hS.c4
  rw [hl] at hc4
  have HC := Lib.hid hcallee; have H2 := Lib.hid hln; have HSO := Lib.hid hso
  clear h hr hS hg hcallee hl hz hz' hln hso hx
  go_enter Tryz.func272, Tryz.ntmps272
  go_upto_region 2 with (go_at_call 271; refine ho.mono ?_; rintro e w1 ⟨rfl, b1⟩; have x4 := (fun st : ExtW w1 => st.cell ((b1.cell (p := ⟨b, 4, none⟩) (cell_lt hc4)).trans hc4)); have B1 := Lib.hid b1; clear b1 ho hc4)
  refine wp_region_ext_tail 9 (by kernel_rfl) (by kernel_rfl) ?_
  simp only [List.take_succ_cons, List.take_zero, List.drop_succ_cons, List.drop_zero]
  repeat (go_big_quiet_step ((go_at_call 273; with_reducible refine calls_ext (hp _))))
  refine wpQuiet_nil ?_
  rintro W ⟨⟨W2, hW⟩, rfl⟩
  have hb2 := B1.out.trans (hW.mono B1.out.size)
  have hcw := HC.out _ hb2
  have HB2 := Lib.hid hb2
  clear x4 hp hidx hW hb2
  go_upto_region 4 with (go_at_call 276; refine hcw.mono ?_; rintro e w3 ⟨rfl, h3, s3, f3⟩; have y4 := s3.c4; rw [H2.out] at y4; have yf := hfrz s3 4; have H3 := Lib.hid h3; have S3 := Lib.hid s3; have F3 := Lib.hid f3; clear h3 s3 f3 hcw)
  have ho2 := Putover (S3.out.set4 (3)) false true HSO.out rfl
  have h4 := set_take (o := 4) H3.out S3.out rfl hlo (.int .i64 (3))
  have s4 := S3.out.set4 (3)
  have f4 := (((below_fr HB2.out wTy true).fx b).trans F3.out).trans (set_fx wTy true w3 b 4 (.int .i64 (3)))
  have H4 := Lib.hid h4; have S4 := Lib.hid s4; have F4 := Lib.hid f4
  clear h4 s4 f4 H3 S3 F3 y4 yf
  change Code.wp _ _ _ _ (w3.setCell ⟨b, 4, none⟩ (.int .i64 (3)))
  generalize w3.setCell ⟨b, 4, none⟩ (.int .i64 (3)) = W4 at *
  go_wp2_with (go_at_call 271; refine ho2.mono ?_; rintro e w5 ⟨rfl, b5⟩)
  go_ret
  exact ⟨rfl, H4.out.keep b5, S4.out.below b5, F4.out.trans ((below_fr b5 wTy true).fx b)⟩
set_option maxRecDepth 10000 in
set_option maxHeartbeats 1000000 in
theorem out_step0 {w0 w : World} {B : WB} {V : WV} {s : CS} {b : Nat} {σ : SL} {rest : List Value} (h : WS w0 w B V s) (hr : s.room) (hlo : w0.heap.size ≤ b) (hS : SlotAt w b 360 σ rest) (hz : σ.tg ≠ 0) (hg : (Lit.int .u64 σ.tg).wf = true) (hl : σ.ln = 0)  :
    Calls Tryz.prog 288 #[.pointer (some ⟨b, 0, none⟩), .pointer (some ⟨B.wb, 0, none⟩)] w fun e w' => e = .returned (.bool false) ∧ WS w0 w' B V (s.acc 1 σ.tg (s.val σ.tg)) ∧ SlotAt w' b 360 { { σ with x := s.val σ.tg } with ln := 1 } rest ∧ Fx wTy true b w w' := by
  have hz' : (σ.tg == 0) = false := beq_eq_false_iff_ne.2 hz
  have ho := Outover hS false false hz' (by rw [hl]; rfl)
  have hcallee : ∀ W, Below w.heap.size w W → Calls Tryz.prog 290 #[.pointer (some ⟨b, 0, none⟩), .pointer (some ⟨B.wb, 0, none⟩)] W fun e w' => e = .returned (.tuple #[]) ∧ WS w0 w' B V (s.acc 1 σ.tg (s.val σ.tg)) ∧ SlotAt w' b 360 ({ σ with x := s.val σ.tg }) rest ∧ Fx wTy true b W w' := fun W hW =>
    out_first (h.keep hW) hr hlo (hS.below hW) hg
  have hln : ({ σ with x := s.val σ.tg }).ln = 0 := hl
  have hso : (({ σ with x := s.val σ.tg }).tg == 0) = false := hz'
  have hidx : ∀ W : World, (Instr.index 382 (.agg #[fv (.func 290), fv (.func 291), fv (.func 292)]) (.int .i64 0)).run Tryz.prog W = .ok (fv (.func 290)) W := fun W => by kernel_rfl
  have hp := fun {w : World} (st : ExtW w) => outs_any st.val
  have hc4 := hS.c4
  rw [hl] at hc4
  have HC := Lib.hid hcallee; have H0 := Lib.hid hln; have HSO := Lib.hid hso
  clear h hr hS hg hcallee hl hz hz' hln hso 
  go_enter Tryz.func288, Tryz.ntmps288
  go_upto_region 2 with (go_at_call 287; refine ho.mono ?_; rintro e w1 ⟨rfl, b1⟩; have x4 := (fun st : ExtW w1 => st.cell ((b1.cell (p := ⟨b, 4, none⟩) (cell_lt hc4)).trans hc4)); have B1 := Lib.hid b1; clear b1 ho hc4)
  refine wp_region_ext_tail 9 (by kernel_rfl) (by kernel_rfl) ?_
  simp only [List.take_succ_cons, List.take_zero, List.drop_succ_cons, List.drop_zero]
  repeat (go_big_quiet_step ((go_at_call 289; with_reducible refine calls_ext (hp _))))
  refine wpQuiet_nil ?_
  rintro W ⟨⟨W2, hW⟩, rfl⟩
  have hb2 := B1.out.trans (hW.mono B1.out.size)
  have hcw := HC.out _ hb2
  have HB2 := Lib.hid hb2
  clear x4 hp hidx hW hb2
  go_upto_region 4 with (go_at_call 290; refine hcw.mono ?_; rintro e w3 ⟨rfl, h3, s3, f3⟩; have y4 := s3.c4; rw [H0.out] at y4; have yf := hfrz s3 4; have H3 := Lib.hid h3; have S3 := Lib.hid s3; have F3 := Lib.hid f3; clear h3 s3 f3 hcw)
  have ho2 := Outover (S3.out.set4 (1)) false false HSO.out rfl
  have h4 := set_take (o := 4) H3.out S3.out rfl hlo (.int .i64 (1))
  have s4 := S3.out.set4 (1)
  have f4 := (((below_fr HB2.out wTy true).fx b).trans F3.out).trans (set_fx wTy true w3 b 4 (.int .i64 (1)))
  have H4 := Lib.hid h4; have S4 := Lib.hid s4; have F4 := Lib.hid f4
  clear h4 s4 f4 H3 S3 F3 y4 yf
  change Code.wp _ _ _ _ (w3.setCell ⟨b, 4, none⟩ (.int .i64 (1)))
  generalize w3.setCell ⟨b, 4, none⟩ (.int .i64 (1)) = W4 at *
  go_wp2_with (go_at_call 287; refine ho2.mono ?_; rintro e w5 ⟨rfl, b5⟩)
  go_ret
  exact ⟨rfl, H4.out.keep b5, S4.out.below b5, F4.out.trans ((below_fr b5 wTy true).fx b)⟩
set_option maxRecDepth 10000 in
set_option maxHeartbeats 1000000 in
theorem out_step1 {w0 w : World} {B : WB} {V : WV} {s : CS} {b : Nat} {σ : SL} {rest : List Value} (h : WS w0 w B V s) (hr : s.room) (hlo : w0.heap.size ≤ b) (hS : SlotAt w b 360 σ rest) (hz : σ.tg ≠ 0) (hg : (Lit.int .u64 σ.tg).wf = true) (hl : σ.ln = 1) (hx : 0 ≤ σ.x ∧ σ.x < 18446744073709551616) :
    Calls Tryz.prog 288 #[.pointer (some ⟨b, 0, none⟩), .pointer (some ⟨B.wb, 0, none⟩)] w fun e w' => e = .returned (.bool false) ∧ WS w0 w' B V (s.acc 2 σ.tg (TagPure.withOf σ.x σ.at_ 0)) ∧ SlotAt w' b 360 { σ with ln := 2 } rest ∧ Fx wTy true b w w' := by
  have hz' : (σ.tg == 0) = false := beq_eq_false_iff_ne.2 hz
  have ho := Outover hS false false hz' (by rw [hl]; rfl)
  have hcallee : ∀ W, Below w.heap.size w W → Calls Tryz.prog 291 #[.pointer (some ⟨b, 0, none⟩), .pointer (some ⟨B.wb, 0, none⟩)] W fun e w' => e = .returned (.tuple #[]) ∧ WS w0 w' B V (s.acc 2 σ.tg (TagPure.withOf σ.x σ.at_ 0)) ∧ SlotAt w' b 360 (σ) rest ∧ Fx wTy true b W w' := fun W hW =>
    (out_second (h.keep hW) hr (hS.below hW) hg hx).mono fun e w' ⟨he, hw, hf⟩ => ⟨he, hw, hf.cells _ _ _ _ (hS.below hW) rfl, fr_fx b hf⟩
  have hln : (σ).ln = 1 := hl
  have hso : ((σ).tg == 0) = false := hz'
  have hidx : ∀ W : World, (Instr.index 382 (.agg #[fv (.func 290), fv (.func 291), fv (.func 292)]) (.int .i64 1)).run Tryz.prog W = .ok (fv (.func 291)) W := fun W => by kernel_rfl
  have hp := fun {w : World} (st : ExtW w) => outs_any st.val
  have hc4 := hS.c4
  rw [hl] at hc4
  have HC := Lib.hid hcallee; have H1 := Lib.hid hln; have HSO := Lib.hid hso
  clear h hr hS hg hcallee hl hz hz' hln hso hx
  go_enter Tryz.func288, Tryz.ntmps288
  go_upto_region 2 with (go_at_call 287; refine ho.mono ?_; rintro e w1 ⟨rfl, b1⟩; have x4 := (fun st : ExtW w1 => st.cell ((b1.cell (p := ⟨b, 4, none⟩) (cell_lt hc4)).trans hc4)); have B1 := Lib.hid b1; clear b1 ho hc4)
  refine wp_region_ext_tail 9 (by kernel_rfl) (by kernel_rfl) ?_
  simp only [List.take_succ_cons, List.take_zero, List.drop_succ_cons, List.drop_zero]
  repeat (go_big_quiet_step ((go_at_call 289; with_reducible refine calls_ext (hp _))))
  refine wpQuiet_nil ?_
  rintro W ⟨⟨W2, hW⟩, rfl⟩
  have hb2 := B1.out.trans (hW.mono B1.out.size)
  have hcw := HC.out _ hb2
  have HB2 := Lib.hid hb2
  clear x4 hp hidx hW hb2
  go_upto_region 4 with (go_at_call 291; refine hcw.mono ?_; rintro e w3 ⟨rfl, h3, s3, f3⟩; have y4 := s3.c4; rw [H1.out] at y4; have yf := hfrz s3 4; have H3 := Lib.hid h3; have S3 := Lib.hid s3; have F3 := Lib.hid f3; clear h3 s3 f3 hcw)
  have ho2 := Outover (S3.out.set4 (2)) false false HSO.out rfl
  have h4 := set_take (o := 4) H3.out S3.out rfl hlo (.int .i64 (2))
  have s4 := S3.out.set4 (2)
  have f4 := (((below_fr HB2.out wTy true).fx b).trans F3.out).trans (set_fx wTy true w3 b 4 (.int .i64 (2)))
  have H4 := Lib.hid h4; have S4 := Lib.hid s4; have F4 := Lib.hid f4
  clear h4 s4 f4 H3 S3 F3 y4 yf
  change Code.wp _ _ _ _ (w3.setCell ⟨b, 4, none⟩ (.int .i64 (2)))
  generalize w3.setCell ⟨b, 4, none⟩ (.int .i64 (2)) = W4 at *
  go_wp2_with (go_at_call 287; refine ho2.mono ?_; rintro e w5 ⟨rfl, b5⟩)
  go_ret
  exact ⟨rfl, H4.out.keep b5, S4.out.below b5, F4.out.trans ((below_fr b5 wTy true).fx b)⟩
set_option maxRecDepth 10000 in
set_option maxHeartbeats 1000000 in
theorem out_step2 {w0 w : World} {B : WB} {V : WV} {s : CS} {b : Nat} {σ : SL} {rest : List Value} (h : WS w0 w B V s) (hr : s.room) (hlo : w0.heap.size ≤ b) (hS : SlotAt w b 360 σ rest) (hz : σ.tg ≠ 0) (hg : (Lit.int .u64 σ.tg).wf = true) (hl : σ.ln = 2) (hi : (Lit.int .u64 σ.it).wf = true) :
    Calls Tryz.prog 288 #[.pointer (some ⟨b, 0, none⟩), .pointer (some ⟨B.wb, 0, none⟩)] w fun e w' => e = .returned (.bool true) ∧ WS w0 w' B V (s.acc 2 σ.it 0) ∧ SlotAt w' b 360 { σ with ln := 3 } rest ∧ Fx wTy true b w w' := by
  have hz' : (σ.tg == 0) = false := beq_eq_false_iff_ne.2 hz
  have ho := Outover hS false false hz' (by rw [hl]; rfl)
  have hcallee : ∀ W, Below w.heap.size w W → Calls Tryz.prog 292 #[.pointer (some ⟨b, 0, none⟩), .pointer (some ⟨B.wb, 0, none⟩)] W fun e w' => e = .returned (.tuple #[]) ∧ WS w0 w' B V (s.acc 2 σ.it 0) ∧ SlotAt w' b 360 (σ) rest ∧ Fx wTy true b W w' := fun W hW =>
    (out_third (h.keep hW) hr (hS.below hW) hi).mono fun e w' ⟨he, hw, hf⟩ => ⟨he, hw, hf.cells _ _ _ _ (hS.below hW) rfl, fr_fx b hf⟩
  have hln : (σ).ln = 2 := hl
  have hso : ((σ).tg == 0) = false := hz'
  have hidx : ∀ W : World, (Instr.index 382 (.agg #[fv (.func 290), fv (.func 291), fv (.func 292)]) (.int .i64 2)).run Tryz.prog W = .ok (fv (.func 292)) W := fun W => by kernel_rfl
  have hp := fun {w : World} (st : ExtW w) => outs_any st.val
  have hc4 := hS.c4
  rw [hl] at hc4
  have HC := Lib.hid hcallee; have H2 := Lib.hid hln; have HSO := Lib.hid hso
  clear h hr hS hg hcallee hl hz hz' hln hso hi
  go_enter Tryz.func288, Tryz.ntmps288
  go_upto_region 2 with (go_at_call 287; refine ho.mono ?_; rintro e w1 ⟨rfl, b1⟩; have x4 := (fun st : ExtW w1 => st.cell ((b1.cell (p := ⟨b, 4, none⟩) (cell_lt hc4)).trans hc4)); have B1 := Lib.hid b1; clear b1 ho hc4)
  refine wp_region_ext_tail 9 (by kernel_rfl) (by kernel_rfl) ?_
  simp only [List.take_succ_cons, List.take_zero, List.drop_succ_cons, List.drop_zero]
  repeat (go_big_quiet_step ((go_at_call 289; with_reducible refine calls_ext (hp _))))
  refine wpQuiet_nil ?_
  rintro W ⟨⟨W2, hW⟩, rfl⟩
  have hb2 := B1.out.trans (hW.mono B1.out.size)
  have hcw := HC.out _ hb2
  have HB2 := Lib.hid hb2
  clear x4 hp hidx hW hb2
  go_upto_region 4 with (go_at_call 292; refine hcw.mono ?_; rintro e w3 ⟨rfl, h3, s3, f3⟩; have y4 := s3.c4; rw [H2.out] at y4; have yf := hfrz s3 4; have H3 := Lib.hid h3; have S3 := Lib.hid s3; have F3 := Lib.hid f3; clear h3 s3 f3 hcw)
  have ho2 := Outover (S3.out.set4 (3)) false true HSO.out rfl
  have h4 := set_take (o := 4) H3.out S3.out rfl hlo (.int .i64 (3))
  have s4 := S3.out.set4 (3)
  have f4 := (((below_fr HB2.out wTy true).fx b).trans F3.out).trans (set_fx wTy true w3 b 4 (.int .i64 (3)))
  have H4 := Lib.hid h4; have S4 := Lib.hid s4; have F4 := Lib.hid f4
  clear h4 s4 f4 H3 S3 F3 y4 yf
  change Code.wp _ _ _ _ (w3.setCell ⟨b, 4, none⟩ (.int .i64 (3)))
  generalize w3.setCell ⟨b, 4, none⟩ (.int .i64 (3)) = W4 at *
  go_wp2_with (go_at_call 287; refine ho2.mono ?_; rintro e w5 ⟨rfl, b5⟩)
  go_ret
  exact ⟨rfl, H4.out.keep b5, S4.out.below b5, F4.out.trans ((below_fr b5 wTy true).fx b)⟩
end Go.Proofs.YtmakjfeepmiggaaGreat