/-
  What is done in the document's world.
-/
import Derived.Test.YtdabcnjjbfmkaaaFrame
import Derived.Test.YtdabcnjjbfmkaaaWorldDo
namespace Go.Proofs.Ytdabcnjjbfmkaaa
open Go.RowKit Go.Maps
set_option linter.unusedVariables false

def RS.room (x : RS) : Prop := x.l.length ≤ 100000 ∧ x.cnt ≤ 1000000
theorem RD.lv {w0 w : World} {B : WB} {V : WV} {x : RS} (h : RD w0 w B V x) : w0.heap.size ≤ w.heap.size := h.below.size
theorem RD.c0 {w0 w : World} {B : WB} {V : WV} {x : RS} (h : RD w0 w B V x) : w.cell? ⟨B.wb, 0, none⟩ = some (.pointer (some ⟨B.cb, 0, none⟩)) := (h.cell 0).trans (val_at B V h.tkl).1

section
variable {w0 w : World} {B : WB} {V : WV} {x : RS} (h : RD w0 w B V x) (hr : x.room) (a : Int) (ha : (Lit.int .u64 a).wf = true)
include h hr ha
theorem rwstore (v : Int) (hv : (Lit.int .u64 v).wf = true) : Calls Try.prog 91 #[.pointer (some ⟨B.wb, 0, none⟩), .int .u64 a, .int .u64 v] w fun e w' => e = .returned (.int .u64 (rlook x.l a)) ∧ RD w0 w' B V (x.acc 2 a v) ∧ Fr rTy false w w' := by
  have c0 := h.c0
  obtain ⟨lv, hq⟩ := h.ref
  have hc := rstore_any hq hr.1 hr.2 h.lv a ha v hv
  have H := Lib.hid h
  clear h hq hr ha hv
  go_enter Try.func91, Try.ntmps91
  go_wp2_with (go_at_call 129; refine hc.mono ?_; rintro e w1 ⟨rfl, r1, k1⟩)
  go_ret
  exact ⟨rfl, H.out.acc r1 k1⟩
theorem rwcas (u v : Int) (hv : (Lit.int .u64 v).wf = true) : Calls Try.prog 139 #[.pointer (some ⟨B.wb, 0, none⟩), .int .u64 a, .int .u64 u, .int .u64 v] w fun e w' => e = .returned (.tuple #[.int .u64 (rlook x.l a), .bool (rlook x.l a == u)]) ∧
    RD w0 w' B V (x.acc 3 a (if rlook x.l a = u then v else rlook x.l a)) ∧ Fr rTy false w w' := by
  have c0 := h.c0
  obtain ⟨lv, hq⟩ := h.ref
  have hc := rcas_any hq hr.1 hr.2 h.lv a ha u v hv
  have H := Lib.hid h
  clear h hq hr ha hv
  generalize (if rlook x.l a = u then v else rlook x.l a) = i at hc ⊢
  go_enter Try.func139, Try.ntmps139
  go_wp2_with (go_at_call 155; refine hc.mono ?_; rintro e w1 ⟨rfl, r1, k1⟩)
  go_ret2
  exact ⟨rfl, H.out.acc r1 k1⟩
omit hr ha in
theorem rwpeek : Calls Try.prog 96 #[.pointer (some ⟨B.wb, 0, none⟩), .int .u64 a] w fun e w' => e = .returned (.int .u64 (rlook x.l a)) ∧ w' = w := by
  have c0 := h.c0
  obtain ⟨lv, hq⟩ := h.ref
  have hc := rpeek_any w _ _ _ _ hq a
  clear h hq
  go_enter Try.func96, Try.ntmps96
  go_wp2_with (go_at_call 135; refine hc.mono ?_; rintro e w1 ⟨rfl, rfl⟩)
  go_ret
  exact ⟨rfl, rfl⟩
end

/-- The document's tick of a word. -/
theorem rtick_any (y : Int) (hy : (Lit.int .u64 y).wf = true) (w : World) : Calls Try.prog 140 #[.int .u64 y] w fun e w' => e = .returned (.int .u64 (eTick y)) ∧ w' = w := by
  have hb : 0 ≤ y ∧ y < 18446744073709551616 := by
    have hmin : IntKind.u64.min = 0 := rfl
    have hmax : IntKind.u64.max = 18446744073709551615 := rfl
    simp only [Lit.wf, Bool.and_eq_true, decide_eq_true_eq] at hy; omega
  have b0 : 0 ≤ eNow y ∧ eNow y < 16777216 := by unfold eNow; omega
  have b1 : 0 ≤ eAt y ∧ eAt y < 16777216 := by unfold eAt; omega
  have b2 : 0 ≤ eGen y ∧ eGen y < 65536 := by unfold eGen; omega
  have g0 : y / 16777216 / 16777216 = eGen y := by unfold eGen; omega
  have h1 : ∀ w, Calls Try.prog 156 #[.int .u64 y] w fun e w' => e = .returned (.int .i64 (eNow y)) ∧ w' = w := fun w => by
    have e0 : y % 16777216 = eNow y := rfl
    have e1 : wrap64 (eNow y) = eNow y := IntWalk.wrap64_in _ (by omega)
    generalize eNow y = n at *
    clear g0 b1 b2
    go_enter Try.func156, Try.ntmps156
    go_wp2
    go_ret
    exact ⟨rfl, rfl⟩
  have h2 : ∀ w, Calls Try.prog 157 #[.int .u64 y] w fun e w' => e = .returned (.int .i64 (eAt y)) ∧ w' = w := fun w => by
    have e0 : y / 16777216 % 16777216 = eAt y := rfl
    have e1 : wrap64 (eAt y) = eAt y := IntWalk.wrap64_in _ (by omega)
    generalize eAt y = n at *
    clear g0 b0 b2 h1
    go_enter Try.func157, Try.ntmps157
    go_wp2
    go_ret
    exact ⟨rfl, rfl⟩
  have h3 : ∀ w, Calls Try.prog 158 #[.int .u64 y] w fun e w' => e = .returned (.int .i64 (eGen y)) ∧ w' = w := fun w => by
    have e1 : wrap64 (eGen y) = eGen y := IntWalk.wrap64_in _ (by omega)
    generalize eGen y = n at *
    clear b0 b1 h1 h2
    go_enter Try.func158, Try.ntmps158
    go_wp2
    go_ret
    exact ⟨rfl, rfl⟩
  have h4 : ∀ n a g, (0 ≤ n ∧ n < 16777216) → (0 ≤ a ∧ a < 16777216) → (0 ≤ g ∧ g < 65536) → ∀ w, Calls Try.prog 159 #[.int .i64 n, .int .i64 a, .int .i64 g] w fun e w' => e = .returned (.int .u64 (eWord n a g)) ∧ w' = w := fun n a g hn ha hg w => by
    have e1 : (g * 16777216 + a) * 16777216 + n = eWord n a g := by unfold eWord; omega
    go_enter Try.func159, Try.ntmps159
    go_wp2
    go_ret
    exact ⟨ret_u64 (by rw [← e1]; omega), rfl⟩
  unfold eTick eNext
  clear hy g0 hb
  generalize eNow y = n at *
  generalize eAt y = a at *
  generalize eGen y = g at *
  go_enter Try.func140, Try.ntmps140
  go_wp2_with (first
    | (go_at_call 156; refine (h1 _).mono ?_; rintro e w' ⟨rfl, rfl⟩)
    | (go_at_call 157; refine (h2 _).mono ?_; rintro e w' ⟨rfl, rfl⟩)
    | (go_at_call 158; refine (h3 _).mono ?_; rintro e w' ⟨rfl, rfl⟩)
    | (go_at_call 159; refine (h4 _ _ _ (by omega) (by omega) (by omega) _).mono ?_; rintro e w' ⟨rfl, rfl⟩))
  all_goals go_ret
  all_goals (refine ⟨ret_u64 ?_, rfl⟩)
  all_goals (repeat' (split))
  all_goals (first | rfl | (exfalso; omega) | (unfold eWord; omega))

theorem rwtick {w0 w : World} {B : WB} {V : WV} {x : RS} (h : RD w0 w B V x) (hr : x.room) : Calls Try.prog 101 #[.pointer (some ⟨B.wb, 0, none⟩)] w fun e w' => e = .returned (.tuple #[]) ∧ RD w0 w' B V (x.acc 3 8 (eTick (rlook x.l 8))) ∧ Fr rTy false w w' := by
  have hv : (Lit.int .u64 (rlook x.l 8)).wf = true := by obtain ⟨lv, hq⟩ := h.ref; exact rlook_wf hq 8
  have hp := rwpeek h 8
  have ht := rtick_any _ hv
  have hc := rwcas h hr 8 (by decide) (rlook x.l 8) (eTick (rlook x.l 8)) (etick_wf _)
  rw [if_pos rfl] at hc
  clear h hr hv
  generalize rlook x.l 8 = y at *
  go_enter Try.func101, Try.ntmps101
  go_wp2_with (first
    | (go_at_call 96; refine hp.mono ?_; rintro e w1 ⟨rfl, hw⟩; obtain rfl := hw.symm; clear hp)
    | (go_at_call 140; refine (ht _).mono ?_; rintro e w1 ⟨rfl, hw⟩; obtain rfl := hw.symm; clear ht)
    | (go_at_call 139; refine hc.mono ?_; rintro e w2 ⟨rfl, h2, f2⟩))
  go_end0
  exact ⟨rfl, h2, f2⟩
end Go.Proofs.Ytdabcnjjbfmkaaa
