/-
  What is done in a world: a tick.
-/
import Derived.Test.YtmakjfeepmiggaaGreatWorld
import Derived.Test.YtmakjfeepmiggaaGreatEpoch
import Derived.Test.YtmakjfeepmiggaaGreatRegion
namespace Go.Proofs.YtmakjfeepmiggaaGreat
open Go.RowKit Go.Maps
set_option linter.unusedVariables false

theorem etick_wf (x : Int) : (Lit.int .u64 (eTick x)).wf = true := by
  have hmin : IntKind.u64.min = 0 := rfl
  have hmax : IntKind.u64.max = 18446744073709551615 := rfl
  have b0 : 0 ≤ eNext x ∧ eNext x < 16777216 := by unfold eNext eNow; split <;> omega
  have b1 : 0 ≤ eAt x ∧ eAt x < 16777216 := by unfold eAt; omega
  have b2 : 0 ≤ eGen x ∧ eGen x < 65536 := by unfold eGen; omega
  have h : 0 ≤ eTick x ∧ eTick x < 18446744073709551616 := by
    unfold eTick eWord
    split
    · split <;> omega
    · omega
  generalize eTick x = t at *
  simp only [Lit.wf, Bool.and_eq_true, decide_eq_true_eq]; omega

theorem Rest.refl (w : World) : Rest w w := fun _ _ _ _ h _ _ => h
theorem Rest.trans {a b c : World} (h : Rest a b) (k : Rest b c) : Rest a c := fun i cs T fr hi h1 h2 => k i cs T fr (h i cs T fr hi h1 h2) h1 h2
/-- A world behind an access. -/
theorem Wld.of {w0 w w' : World} {wb cb : Nat} {c : Conf} {s s' : CS} {S : Nat → Prop} (h : Wld w0 w wb cb c s) (hS : Cells w w0.heap.size cb s S) (hA : Acc w w0.heap.size cb s' S w') : Wld w0 w' wb cb c s' ∧ Rest w w' :=
  ⟨h.acc (Own.acc hS h.own.below hA) (hA.rest hS), hA.rest hS⟩

section
variable {w0 w : World} {wb cb : Nat} {c : Conf} {s : CS} (h : Wld w0 w wb cb c s) (hr : s.room) (a : Int) (ha : (Lit.int .u64 a).wf = true)
include h hr ha
theorem Wld.load : Calls Tryz.prog 62 #[.pointer (some ⟨cb, 0, none⟩), .int .u64 a] w fun e w' => e = .returned (.int .u64 (s.val a)) ∧ Wld w0 w' wb cb c (s.acc 1 a (s.val a)) ∧ Rest w w' := by
  obtain ⟨⟨S, hS⟩, hB⟩ := h.own
  exact (load_any w _ cb s S hS a ha hr.1 hr.2 hB.size).mono fun e w' ⟨he, hA⟩ => ⟨he, h.of hS hA⟩
theorem Wld.store (v : Int) (hv : (Lit.int .u64 v).wf = true) : Calls Tryz.prog 41 #[.pointer (some ⟨cb, 0, none⟩), .int .u64 a, .int .u64 v] w fun e w' => e = .returned (.int .u64 (s.val a)) ∧ Wld w0 w' wb cb c (s.acc 2 a v) ∧ Rest w w' := by
  obtain ⟨⟨S, hS⟩, hB⟩ := h.own
  exact (store_any w _ cb s S hS a v ha hv hr.1 hr.2 hB.size).mono fun e w' ⟨he, hA⟩ => ⟨he, h.of hS hA⟩
theorem Wld.add (v : Int) : Calls Tryz.prog 282 #[.pointer (some ⟨cb, 0, none⟩), .int .u64 a, .int .u64 v] w fun e w' => e = .returned (.int .u64 (s.val a)) ∧ Wld w0 w' wb cb c (s.acc 4 a (wu (s.val a + v))) ∧ Rest w w' := by
  obtain ⟨⟨S, hS⟩, hB⟩ := h.own
  exact (add_any w _ cb s S hS a v ha hr.1 hr.2 hB.size).mono fun e w' ⟨he, hA⟩ => ⟨he, h.of hS hA⟩
theorem Wld.cas (x y : Int) (hy : (Lit.int .u64 y).wf = true) : Calls Tryz.prog 159 #[.pointer (some ⟨cb, 0, none⟩), .int .u64 a, .int .u64 x, .int .u64 y] w fun e w' => e = .returned (.tuple #[.int .u64 (s.val a), .bool (s.val a == x)]) ∧
    Wld w0 w' wb cb c (s.acc 3 a (if s.val a = x then y else s.val a)) ∧ Rest w w' := by
  obtain ⟨⟨S, hS⟩, hB⟩ := h.own
  exact (cas_any w _ cb s S hS a x y ha hy hr.1 hr.2 hB.size).mono fun e w' ⟨he, hA⟩ => ⟨he, h.of hS hA⟩
end

set_option maxRecDepth 10000 in
theorem tick_any {w0 w : World} {wb cb : Nat} {c : Conf} {s : CS} (h : Wld w0 w wb cb c s) (hr : s.room) : Calls Tryz.prog 101 #[.pointer (some ⟨wb, 0, none⟩)] w fun e w' => e = .returned (.tuple #[]) ∧ Wld w0 w' wb cb c (s.acc 3 8 (eTick (s.val 8))) ∧ Rest w w' := by
  obtain ⟨c0, -, -⟩ := h.cell
  have x0 := fun st : ExtW w => st.cell c0
  have hk := peek_own h.own 8 (by decide)
  have hv := h.own.wf 8
  obtain ⟨x, hx⟩ : ∃ x, x = s.val 8 := ⟨_, rfl⟩
  have ht : ∀ st : ExtW w, Calls Tryz.prog 160 #[.int .u64 x] st.val fun e w' => e = .returned (.int .u64 (eTick x)) ∧ Below st.val.heap.size st.val w' := fun st => etick_any x (by rw [hx]; exact hv) st.val
  have HH := Lib.hid h
  have HR := Lib.hid hr
  rw [← hx] at hk ⊢
  have HX := Lib.hid hx
  clear h hr hv hx
  go_enter Tryz.func101, Tryz.ntmps101
  go_wp2_with (go_at_call 142; refine hk.mono ?_; rintro e w' ⟨rfl, rfl⟩)
  refine wp_region_ext_tail 7 (by kernel_rfl) (by kernel_rfl) ?_
  simp only [List.take_succ_cons, List.take_zero, List.drop_succ_cons, List.drop_zero]
  repeat (go_big_quiet_step ((go_at_call 160; with_reducible refine calls_ext (ht _))))
  refine wpQuiet_nil ?_
  rintro W ⟨⟨W2, hW⟩, rfl⟩
  clear x0 ht
  have hf := HH.out.keep hW
  have hs := HX.out
  have hcas := hf.cas HR.out 8 (by decide) x (eTick x) (etick_wf x)
  rw [← hs, if_pos rfl] at hcas
  have HF := Lib.hid hf
  have HW := Lib.hid (below_rest hW)
  clear hs hf hW
  go_wp2_with (go_at_call 159; refine hcas.mono ?_; rintro e w1 ⟨rfl, h1, h2⟩)
  go_end0
  exact ⟨rfl, h1, HW.out.trans h2⟩
end Go.Proofs.YtmakjfeepmiggaaGreat
