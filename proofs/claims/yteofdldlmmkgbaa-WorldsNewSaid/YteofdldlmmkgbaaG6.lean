/-
  Texts of this prover, merged: Epoch, WorldDo, WorldLives, Mark, Front.
-/
import Derived.Test.YteofdldlmmkgbaaG1
import Derived.Test.YteofdldlmmkgbaaG5
import Derived.Test.YteofdldlmmkgbaaG3
/-
  The word of the epoch; a tick of it.
-/
namespace Go.Proofs.Yteofdldlmmkgbaa
open Go.RowKit
set_option linter.unusedVariables false

theorem mask_u64 (x : Int) (m : Nat) (k : Nat) (hm : m = 2 ^ k - 1) (hk : k ≤ 63) (h0 : 0 ≤ x) (h1 : x < 18446744073709551616) : bits .and .u64 x (m : Int) = x % ((2 ^ k : Nat) : Int) := by
  obtain ⟨n, rfl⟩ := Int.eq_ofNat_of_zero_le h0
  have hp : (2 : Nat) ^ k ≤ 2 ^ 63 := Nat.pow_le_pow_right (by decide) hk
  have hp0 : 0 < (2 : Nat) ^ k := Nat.two_pow_pos k
  rw [u64_and _ _ (by omega) h1 (by omega) (by omega)]
  simp only [Int.toNat_natCast, hm, Nat.and_two_pow_sub_one_eq_mod]
  omega
theorem mask24 (x : Int) (h0 : 0 ≤ x) (h1 : x < 18446744073709551616) : bits .and .u64 x 16777215 = x % 16777216 := mask_u64 x 16777215 24 (by decide) (by decide) h0 h1
theorem mask16 (x : Int) (h0 : 0 ≤ x) (h1 : x < 18446744073709551616) : bits .and .u64 x 65535 = x % 65536 := mask_u64 x 65535 16 (by decide) (by decide) h0 h1
theorem or_up (a b : Int) (k : Nat) (hk : k ≤ 63) (a0 : 0 ≤ a) (a1 : a < ((2 ^ k : Nat) : Int)) (b0 : 0 ≤ b) (b1 : b * ((2 ^ k : Nat) : Int) < 18446744073709551616) : bits .or .u64 a (b * ((2 ^ k : Nat) : Int)) = a + b * ((2 ^ k : Nat) : Int) := by
  obtain ⟨n, rfl⟩ := Int.eq_ofNat_of_zero_le a0
  obtain ⟨m, rfl⟩ := Int.eq_ofNat_of_zero_le b0
  have hp : (2 : Nat) ^ k ≤ 2 ^ 63 := Nat.pow_le_pow_right (by decide) hk
  have e2 : ((m : Int) * ((2 ^ k : Nat) : Int)) = ((m * 2 ^ k : Nat) : Int) := by simp
  rw [e2] at b1 ⊢
  have hn : n < 2 ^ k := by omega
  rw [u64_or_nat _ _ (by omega) (by omega), Nat.or_comm, Nat.mul_comm, ← Nat.two_pow_add_eq_or_of_lt hn]
  omega

/-- The parts of the epoch's word. -/
def eNow (x : Int) : Int := x % 16777216
def eAt (x : Int) : Int := x / 16777216 % 16777216
def eGen (x : Int) : Int := x / 281474976710656 % 65536
def eWord (n a g : Int) : Int := n + a * 16777216 + g * 281474976710656

theorem said_any (x : Int) (hx : (Lit.int .u64 x).wf = true) (w : World) : Calls Try.prog 78 #[.int .u64 x] w fun e w' => e = .returned (.agg #[.int .i64 (eNow x), .int .i64 (eAt x), .int .i64 (eGen x)]) ∧ Below w.heap.size w w' := by
  have h : 0 ≤ x ∧ x < 18446744073709551616 := by
    have hmin : IntKind.u64.min = 0 := rfl
    have hmax : IntKind.u64.max = 18446744073709551615 := rfl
    simp only [Lit.wf, Bool.and_eq_true, decide_eq_true_eq] at hx; omega
  have m0 := mask24 x h.1 h.2
  have m1 := mask24 (x / 16777216) (by omega) (by omega)
  have m2 := mask16 (x / 281474976710656) (by omega) (by omega)
  have r0 : eNow x = x % 16777216 := rfl
  have r1 : eAt x = x / 16777216 % 16777216 := rfl
  have r2 : eGen x = x / 281474976710656 % 65536 := rfl
  rw [← r0] at m0
  rw [← r1] at m1
  rw [← r2] at m2
  have b0 : 0 ≤ eNow x ∧ eNow x < 16777216 := by omega
  have b1 : 0 ≤ eAt x ∧ eAt x < 16777216 := by omega
  have b2 : 0 ≤ eGen x ∧ eGen x < 65536 := by omega
  have w0 : wrap64 (eNow x) = eNow x := IntWalk.wrap64_in _ (by omega)
  have w1 : wrap64 (eAt x) = eAt x := IntWalk.wrap64_in _ (by omega)
  have w2 : wrap64 (eGen x) = eGen x := IntWalk.wrap64_in _ (by omega)
  clear r0 r1 r2 hx h b0 b1 b2
  generalize eNow x = n at *
  generalize eAt x = a at *
  generalize eGen x = g at *
  go_enter Try.func78, Try.ntmps78
  go_wp2
  refine bodyPost_ret (v := .agg #[.int .i64 n, .int .i64 a, .int .i64 g]) (by simp [results, Try.results78, go_sem]) rfl ⟨rfl, (Below.refl _ _).alloc (Nat.le_refl _) _⟩
theorem eword_any (n a g : Int) (hn : 0 ≤ n ∧ n < 16777216) (ha : 0 ≤ a ∧ a < 16777216) (hg : 0 ≤ g ∧ g < 65536) (w : World) : Calls Try.prog 119 #[.agg #[.int .i64 n, .int .i64 a, .int .i64 g]] w fun e w' => e = .returned (.int .u64 (eWord n a g)) ∧ Below w.heap.size w w' := by
  have m0 : bits .and .u64 n 16777215 = n := by rw [mask24 n (by omega) (by omega)]; omega
  have m1 : bits .and .u64 a 16777215 = a := by rw [mask24 a (by omega) (by omega)]; omega
  have m2 : bits .and .u64 g 65535 = g := by rw [mask16 g (by omega) (by omega)]; omega
  have o1 : bits .or .u64 n (a * 16777216) = n + a * 16777216 := or_up n a 24 (by decide) hn.1 (by simpa using hn.2) ha.1 (by simp; omega)
  have o2 : bits .or .u64 (n + a * 16777216) (g * 281474976710656) = eWord n a g := or_up (n + a * 16777216) g 48 (by decide) (by omega) (by simp; omega) hg.1 (by simp; omega)
  go_enter Try.func119, Try.ntmps119
  go_wp2
  go_ret
  exact ⟨rfl, (Below.refl _ _).alloc (Nat.le_refl _) _⟩

/-- The word a tick later. -/
def eNext (x : Int) : Int := if eNow x < 16777215 then eNow x + 1 else 16777215
def eTick (x : Int) : Int := if 0 < eAt x ∧ eAt x ≤ eNext x then eWord (eNext x) 0 (if eGen x < 65535 then eGen x + 1 else 65535) else eWord (eNext x) (eAt x) (eGen x)

set_option maxRecDepth 10000 in
theorem etick_any (x : Int) (hx : (Lit.int .u64 x).wf = true) (w : World) : Calls Try.prog 80 #[.int .u64 x] w fun e w' => e = .returned (.int .u64 (eTick x)) ∧ Below w.heap.size w w' := by
  have hs := said_any x hx w
  have b0 : 0 ≤ eNow x ∧ eNow x < 16777216 := by unfold eNow; omega
  have b1 : 0 ≤ eAt x ∧ eAt x < 16777216 := by unfold eAt; omega
  have b2 : 0 ≤ eGen x ∧ eGen x < 65536 := by unfold eGen; omega
  unfold eTick eNext
  clear hx
  generalize eNow x = n at *
  generalize eAt x = a at *
  generalize eGen x = g at *
  obtain ⟨n', hn'⟩ : ∃ n', n' = if n < 16777215 then n + 1 else 16777215 := ⟨_, rfl⟩
  rw [← hn']
  have c0 : 0 ≤ n' ∧ n' < 16777216 := by rw [hn']; split <;> omega
  have hmin : min (n + 1) 16777215 = n' := by rw [hn']; split <;> omega
  by_cases hd : 0 < a ∧ a ≤ n'
  · rw [if_pos hd]
    obtain ⟨g', hg'⟩ : ∃ g', g' = if g < 65535 then g + 1 else 65535 := ⟨_, rfl⟩
    rw [← hg']
    have c2 : 0 ≤ g' ∧ g' < 65536 := by rw [hg']; split <;> omega
    have hming : min (g + 1) 65535 = g' := by rw [hg']; split <;> omega
    go_enter Try.func80, Try.ntmps80
    go_wp2_with (first | (go_at_call 78; refine hs.mono ?_; rintro e w1 ⟨rfl, h1⟩) | (go_at_call 119; refine (eword_any _ _ _ (by omega) (by omega) (by omega) _).mono ?_; rintro e w2 ⟨rfl, h2⟩))
    all_goals (have hs1 := h1.size)
    all_goals go_ret
    all_goals refine ⟨rfl, Below.trans ?_ (h2.mono ?_)⟩
    all_goals first | (simp; done) | (simp; omega) | (repeat (first | exact h1 | (refine Below.setCell ?_ (by simpa using hs1) _) | (refine Below.alloc ?_ (by simpa using hs1) _)))
  · rw [if_neg hd]
    go_enter Try.func80, Try.ntmps80
    go_wp2_with (first | (go_at_call 78; refine hs.mono ?_; rintro e w1 ⟨rfl, h1⟩) | (go_at_call 119; refine (eword_any _ _ _ (by omega) (by omega) (by omega) _).mono ?_; rintro e w2 ⟨rfl, h2⟩))
    all_goals (have hs1 := h1.size)
    all_goals go_ret
    all_goals refine ⟨rfl, Below.trans ?_ (h2.mono ?_)⟩
    all_goals first | (simp; done) | (simp; omega) | (repeat (first | exact h1 | (refine Below.setCell ?_ (by simpa using hs1) _) | (refine Below.alloc ?_ (by simpa using hs1) _)))
end Go.Proofs.Yteofdldlmmkgbaa

/-
  What is done in a world: a tick.
-/
namespace Go.Proofs.Yteofdldlmmkgbaa
open Go.RowKit Go.Maps
set_option linter.unusedVariables false

theorem etick_wf (x : Int) : (Lit.int .u64 (eTick x)).wf = true := by
  have hmin : IntKind.u64.min = 0 := rfl
  have hmax : IntKind.u64.max = 18446744073709551615 := rfl
  have b0 : 0 ≤ eNext x ∧ eNext x < 16777216 := by unfold eNext eNow; split <;> omega
  have b1 : 0 ≤ eAt x ∧ eAt x < 16777216 := by unfold eAt; omega
  have b2 : 0 ≤ eGen x ∧ eGen x < 65536 := by unfold eGen; omega
  have h : 0 ≤ eTick x ∧ eTick x < 18446744073709551616 := by
    unfold eTick eWord
    split
    · split <;> omega
    · omega
  generalize eTick x = t at *
  simp only [Lit.wf, Bool.and_eq_true, decide_eq_true_eq]; omega

theorem Rest.refl (w : World) : Rest w w := fun _ _ _ _ h _ _ => h
theorem Rest.trans {a b c : World} (h : Rest a b) (k : Rest b c) : Rest a c := fun i cs T fr hi h1 h2 => k i cs T fr (h i cs T fr hi h1 h2) h1 h2
/-- A world behind an access. -/
theorem Wld.of {w0 w w' : World} {wb cb : Nat} {c : Conf} {s s' : CS} {S : Nat → Prop} (h : Wld w0 w wb cb c s) (hS : Cells w w0.heap.size cb s S) (hA : Acc w w0.heap.size cb s' S w') : Wld w0 w' wb cb c s' ∧ Rest w w' :=
  ⟨h.acc (Own.acc hS h.own.below hA) (hA.rest hS), hA.rest hS⟩

section
variable {w0 w : World} {wb cb : Nat} {c : Conf} {s : CS} (h : Wld w0 w wb cb c s) (hr : s.room) (a : Int) (ha : (Lit.int .u64 a).wf = true)
include h hr ha
theorem Wld.load : Calls Try.prog 120 #[.pointer (some ⟨cb, 0, none⟩), .int .u64 a] w fun e w' => e = .returned (.int .u64 (s.val a)) ∧ Wld w0 w' wb cb c (s.acc 1 a (s.val a)) ∧ Rest w w' := by
  obtain ⟨⟨S, hS⟩, hB⟩ := h.own
  exact (load_any w _ cb s S hS a ha hr.1 hr.2 hB.size).mono fun e w' ⟨he, hA⟩ => ⟨he, h.of hS hA⟩
theorem Wld.store (v : Int) (hv : (Lit.int .u64 v).wf = true) : Calls Try.prog 83 #[.pointer (some ⟨cb, 0, none⟩), .int .u64 a, .int .u64 v] w fun e w' => e = .returned (.int .u64 (s.val a)) ∧ Wld w0 w' wb cb c (s.acc 2 a v) ∧ Rest w w' := by
  obtain ⟨⟨S, hS⟩, hB⟩ := h.own
  exact (store_any w _ cb s S hS a v ha hv hr.1 hr.2 hB.size).mono fun e w' ⟨he, hA⟩ => ⟨he, h.of hS hA⟩
theorem Wld.add (v : Int) : Calls Try.prog 22 #[.pointer (some ⟨cb, 0, none⟩), .int .u64 a, .int .u64 v] w fun e w' => e = .returned (.int .u64 (s.val a)) ∧ Wld w0 w' wb cb c (s.acc 4 a (wu (s.val a + v))) ∧ Rest w w' := by
  obtain ⟨⟨S, hS⟩, hB⟩ := h.own
  exact (add_any w _ cb s S hS a v ha hr.1 hr.2 hB.size).mono fun e w' ⟨he, hA⟩ => ⟨he, h.of hS hA⟩
theorem Wld.cas (x y : Int) (hy : (Lit.int .u64 y).wf = true) : Calls Try.prog 79 #[.pointer (some ⟨cb, 0, none⟩), .int .u64 a, .int .u64 x, .int .u64 y] w fun e w' => e = .returned (.tuple #[.int .u64 (s.val a), .bool (s.val a == x)]) ∧
    Wld w0 w' wb cb c (s.acc 3 a (if s.val a = x then y else s.val a)) ∧ Rest w w' := by
  obtain ⟨⟨S, hS⟩, hB⟩ := h.own
  exact (cas_any w _ cb s S hS a x y ha hy hr.1 hr.2 hB.size).mono fun e w' ⟨he, hA⟩ => ⟨he, h.of hS hA⟩
end

set_option maxRecDepth 10000 in
theorem tick_any {w0 w : World} {wb cb : Nat} {c : Conf} {s : CS} (h : Wld w0 w wb cb c s) (hr : s.room) : Calls Try.prog 29 #[.pointer (some ⟨wb, 0, none⟩)] w fun e w' => e = .returned (.tuple #[]) ∧ Wld w0 w' wb cb c (s.acc 3 8 (eTick (s.val 8))) ∧ Rest w w' := by
  obtain ⟨c0, -, -⟩ := h.cell
  have x0 := fun st : ExtW w => st.cell c0
  have hk := peek_own h.own 8 (by decide)
  have hv := h.own.wf 8
  obtain ⟨x, hx⟩ : ∃ x, x = s.val 8 := ⟨_, rfl⟩
  have ht : ∀ st : ExtW w, Calls Try.prog 80 #[.int .u64 x] st.val fun e w' => e = .returned (.int .u64 (eTick x)) ∧ Below st.val.heap.size st.val w' := fun st => etick_any x (by rw [hx]; exact hv) st.val
  have HH := Lib.hid h
  have HR := Lib.hid hr
  rw [← hx] at hk ⊢
  have HX := Lib.hid hx
  clear h hr hv hx
  go_enter Try.func29, Try.ntmps29
  go_wp2_with (go_at_call 27; refine hk.mono ?_; rintro e w' ⟨rfl, rfl⟩)
  refine wp_region_ext_tail 7 (by kernel_rfl) (by kernel_rfl) ?_
  simp only [List.take_succ_cons, List.take_zero, List.drop_succ_cons, List.drop_zero]
  repeat (go_big_quiet_step ((go_at_call 80; with_reducible refine calls_ext (ht _))))
  refine wpQuiet_nil ?_
  rintro W ⟨⟨W2, hW⟩, rfl⟩
  clear x0 ht
  have hf := HH.out.keep hW
  have hs := HX.out
  have hcas := hf.cas HR.out 8 (by decide) x (eTick x) (etick_wf x)
  rw [← hs, if_pos rfl] at hcas
  have HF := Lib.hid hf
  have HW := Lib.hid (below_rest hW)
  clear hs hf hW
  go_wp2_with (go_at_call 79; refine hcas.mono ?_; rintro e w1 ⟨rfl, h1, h2⟩)
  go_end0
  exact ⟨rfl, h1, HW.out.trans h2⟩
end Go.Proofs.Yteofdldlmmkgbaa

/-
  A new world, at hand; layer 10's examples.
-/
namespace Go.Proofs.Yteofdldlmmkgbaa
open Go.RowKit Go.Maps
set_option linter.unusedVariables false

theorem bnext {w a b : World} (h : Below w.heap.size w a) (k : Below a.heap.size a b) : Below w.heap.size w b := h.trans (k.mono h.size)
/-- The cells of a new world. -/
structure New1 (bits : Int) (s : CS) : Prop where
  v2 : s.val 2 = tword bits 0
  vo : ∀ a, a ≠ 2 → s.val a = 0
  cnt : s.cnt = 0
  n : s.n = 1
theorem new1 (bits : Int) : New1 bits (CS.init [(2, tword bits 0)]) := ⟨upd_same (fun _ => 0) 2 (tword bits 0), fun a ha => upd_other (fun _ => 0) ha (tword bits 0), rfl, rfl⟩
theorem New1.room {bits : Int} {s : CS} (h : New1 bits s) : s.room := by unfold CS.room lim; rw [h.cnt, h.n]; omega
theorem CS.acc_val {s : CS} (k a i x : Int) (hx : x ≠ a) : (s.acc k a i).val x = s.val x := upd_other _ hx _
theorem CS.acc_self {s : CS} (k a i : Int) : (s.acc k a i).val a = i := upd_same _ _ _

theorem Own.base {w0 w w' : World} {b : Nat} {s : CS} (h : Own w w' b s) (hB : Below w0.heap.size w0 w) : Own w0 w' b s := by
  obtain ⟨⟨S, hS⟩, h2⟩ := h
  exact Own.new hB hS h2
theorem new_wld {w0 w : World} (hB : Below w0.heap.size w0 w) (c : Conf) (hc : c.ok = true) : Calls Try.prog 8 #[.agg #[.int .i64 c.bits, .int .i64 c.budget, .int .i64 c.tries, .int .i64 c.quantum, .int .i64 c.way]] w fun e w' => ∃ wb cb s,
    e = .returned (.tuple #[.pointer (some ⟨wb, 0, none⟩), .int .i64 0]) ∧ Wld w0 w' wb cb c s ∧ New1 c.bits s ∧ Below w.heap.size w w' :=
  (wnew_ok c hc w).mono fun e w' ⟨wb, cb, ib, nb, he, hb, _, ho, _⟩ => ⟨wb, cb, _, he, ⟨ho.base hB, ib, nb, tk0, -1, hb⟩, new1 _, ho.below⟩

def conf10 : Conf := ⟨2, 8, 3, 1, 16⟩
def conf00 : Conf := ⟨0, 8, 3, 1, 16⟩
set_option maxRecDepth 10000 in
set_option maxHeartbeats 400000 in
theorem lives10 (w : World) : Calls Try.prog 13 #[] w fun e w' => e = .returned (.bool true) ∧ Below w.heap.size w w' := by
  have hg : (asNow (tword 2 0) == 0 && pmay 2 8 (asOld (tword 2 0))) = true := by decide
  have e1 : eTick 0 = 1 := by decide
  have e2 : tword 2 0 = 2 := by decide
  have HG := Lib.hid hg; have E1 := Lib.hid e1; have E2 := Lib.hid e2
  clear hg e1 e2
  have hn1 : Calls Try.prog 8 #[.agg #[.int .i64 2, .int .i64 8, .int .i64 3, .int .i64 1, .int .i64 16]] w fun e w' => ∃ wb cb s, e = .returned (.tuple #[.pointer (some ⟨wb, 0, none⟩), .int .i64 0]) ∧ Wld w w' wb cb conf10 s ∧ New1 2 s ∧ Below w.heap.size w w' := new_wld (Below.refl w.heap.size w) conf10 (by decide)
  have hn2 : ∀ w, Calls Try.prog 8 #[.agg #[.int .i64 0, .int .i64 8, .int .i64 3, .int .i64 1, .int .i64 16]] w fun e w' => e = .returned (.tuple #[.pointer none, .int .i64 1]) ∧ Below w.heap.size w w' := wnew_bad conf00 (by decide)
  go_enter Try.func13, Try.ntmps13
  go_wp2_with (first
    | (go_at_call 8; with_reducible refine hn1.mono ?_; rintro e w1 ⟨wb, cb, s, rfl, h1, n1, b1⟩; clear hn1)
    | (go_at_call 8; with_reducible refine (hn2 _).mono ?_; rintro e w2 ⟨rfl, b2⟩; have h2 := h1.keep b2; obtain ⟨c0, -, -⟩ := h2.cell; clear h1)
    | (go_at_call 27; refine (peek_own h2.own 2 (by decide)).mono ?_; rw [n1.v2, show tword 2 0 = 2 from E2.out]; rintro e w3 ⟨rfl, rfl⟩)
    | (go_at_call 20; refine (steps_any h2).mono ?_; rw [n1.cnt]; rintro e w3 ⟨rfl, rfl⟩)
    | (go_at_call 15; refine (grows_any h2 (by decide)).mono ?_; rw [n1.v2, show (asNow (tword 2 0) == 0 && pmay conf10.bits conf10.budget (asOld (tword 2 0))) = true from HG.out]; rintro e w4 ⟨rfl, b4⟩; have h4 := h2.keep b4; clear h2)
    | (go_at_call 29; refine (tick_any h4 n1.room).mono ?_; rw [n1.vo 8 (by decide), E1.out]; rintro e w5 ⟨rfl, h5, -⟩; clear c0; obtain ⟨c0, -, -⟩ := h5.cell)
    | (go_at_call 27; refine (peek_own h5.own 8 (by decide)).mono ?_; rw [CS.acc_self]; rintro e w3 ⟨rfl, rfl⟩)
    | (go_at_call 20; refine (steps_any h5).mono ?_; rintro e w3 ⟨rfl, rfl⟩))
  go_ret
  exact ⟨by simp [CS.acc, n1.cnt], h5.own.below⟩

theorem box5r {w w' : World} {q T : Nat} {c0 c1 c2 c3 c4 : Value} (hq : w.heap[q]? = some (.cells #[c0, c1, c2, c3, c4] T (0, 0))) (h : Rest w w') (h1 : (T == 167) = false) (h2 : (T == 212) = false) :
    w'.heap[q]? = some (.cells #[c0, c1, c2, c3, c4] T (0, 0)) ∧ w'.cell? ⟨q, 0, none⟩ = some c0 ∧ w'.cell? ⟨q, 1, none⟩ = some c1 ∧ w'.cell? ⟨q, 2, none⟩ = some c2 ∧ w'.cell? ⟨q, 3, none⟩ = some c3 ∧ w'.cell? ⟨q, 4, none⟩ = some c4 :=
  box5 (h q _ _ _ hq h1 h2) (Below.refl _ _)
theorem room_acc {s : CS} {k a i : Int} (m : Nat) (hs : s.n ≤ m ∧ s.cnt ≤ m) : (s.acc k a i).n ≤ m + 1 ∧ (s.acc k a i).cnt ≤ m + 1 := ⟨Nat.succ_le_succ hs.1, Nat.succ_le_succ hs.2⟩
theorem CS.room_of {s : CS} (m : Nat) (hs : s.n ≤ m ∧ s.cnt ≤ m) (hm : m < lim) : s.room := ⟨by omega, by omega⟩
theorem New1.le {bits : Int} {s : CS} (h : New1 bits s) : s.n ≤ 1 ∧ s.cnt ≤ 1 := by rw [h.n, h.cnt]; omega

end Go.Proofs.Yteofdldlmmkgbaa

/-
  Marks of stripes.
-/
namespace Go.Proofs.Yteofdldlmmkgbaa
open Go.RowKit Go.Maps
set_option linter.unusedVariables false

/-- A store into a block of another type than cells' leaves the cells. -/
theorem Own.other {w0 w w' : World} {b : Nat} {s : CS} {q : Nat} {cs : Array Value} {T : TypeId} {fr : Nat × Nat} (h : Own w0 w b s) (hk : Keeps (· = q) w w') (hq : w.heap[q]? = some (.cells cs T fr)) (hlo : w0.heap.size ≤ q)
    (h1 : (T == 167) = false) (h2 : (T == 212) = false) : Own w0 w' b s := by
  obtain ⟨⟨S, hS⟩, hB⟩ := h
  refine ⟨⟨S, hS.keeps hk fun k hk c => ?_⟩, keeps_below hk hB hB.size fun k e => e ▸ hlo⟩
  subst c
  obtain ⟨mo, f, hA, rfl⟩ := hS
  rcases hk with rfl | hm | ⟨a, ha⟩
  · have := hA.hdr.symm.trans hq; simp only [Option.some.injEq, Obj.cells.injEq] at this; rw [← this.2.1] at h1; simp at h1
  · obtain ⟨⟨D, ⟨es, cl, hb, _⟩, _⟩, _⟩ := hA.map k hm
    have := hb.symm.trans hq; cases this
  · have := (hA.ptr a k ha).1.symm.trans hq; simp only [wordC, Option.some.injEq, Obj.cells.injEq] at this; rw [← this.2.1] at h2; simp at h2
theorem Wld.other {w0 w w' : World} {wb cb : Nat} {c : Conf} {s : CS} {q : Nat} {cs : Array Value} {T : TypeId} {fr : Nat × Nat} (h : Wld w0 w wb cb c s) (hk : Keeps (· = q) w w') (hq : w.heap[q]? = some (.cells cs T fr)) (hlo : w0.heap.size ≤ q)
    (h1 : (T == 167) = false) (h2 : (T == 212) = false) (h3 : (T == 42) = false) : Wld w0 w' wb cb c s := by
  obtain ⟨ib, nb, tk, hh, hb⟩ := h.blk
  refine ⟨h.own.other hk hq hlo h1 h2, ib, nb, tk, hh, (hk.block wb (Array.getElem?_eq_some_iff.1 hb).1 fun c => ?_).trans hb⟩
  subst c
  have := hb.symm.trans hq; simp only [Option.some.injEq, Obj.cells.injEq] at this; rw [← this.2.1] at h3; simp at h3

/-- Addresses that are left, without room behind them. -/
def Sl (w : World) (v : Value) (xs : List Int) : Prop :=
  (v = .slice none 0 0 ∧ xs = []) ∨ ∃ g off cur, v = .slice (some ⟨g, off, none⟩) xs.length xs.length ∧ w.heap[g]? = some (.cells cur 56 (0, 0)) ∧ xs.length ≤ maxLen ∧ (cur.toList.drop off).take xs.length = cu xs
theorem Adr.sl {w : World} {base : Nat} {v : Value} {xs : List Int} (h : Adr w base v xs) : Sl w v xs := by
  rcases h with h | ⟨g, cur, rfl, h1, h2, h3, h4⟩
  · exact .inl h
  · exact .inr ⟨g, 0, cur, rfl, h2, h3, by simpa using h4⟩
theorem Sl.keep {w w' : World} {v : Value} {xs : List Int} (h : Sl w v xs) (hb : Below w.heap.size w w') : Sl w' v xs := by
  rcases h with h | ⟨g, off, cur, rfl, h1, h2⟩
  · exact .inl h
  · exact .inr ⟨g, off, cur, rfl, (hb.block g (Array.getElem?_eq_some_iff.1 h1).1).trans h1, h2⟩
theorem Sl.rest {w w' : World} {v : Value} {xs : List Int} (h : Sl w v xs) (hb : Rest w w') : Sl w' v xs := by
  rcases h with h | ⟨g, off, cur, rfl, h1, h2⟩
  · exact .inl h
  · exact .inr ⟨g, off, cur, rfl, hb _ _ _ _ h1 rfl rfl, h2⟩
theorem Sl.len {w : World} {v : Value} {xs : List Int} (h : Sl w v xs) : ∃ a, v = .slice a xs.length xs.length ∧ xs.length ≤ maxLen := by
  rcases h with ⟨rfl, rfl⟩ | ⟨g, off, cur, rfl, h1, h2, h3⟩
  · exact ⟨none, rfl, Nat.zero_le _⟩
  · exact ⟨_, rfl, h2⟩
theorem Sl.at0 {w : World} {v : Value} {a : Int} {r : List Int} (h : Sl w v (a :: r)) : ∃ g off, v = .slice (some ⟨g, off, none⟩) (r.length + 1) (r.length + 1) ∧ w.cell? ⟨g, off, none⟩ = some (.int .u64 a) ∧ r.length + 1 ≤ maxLen ∧
    (∃ cur, w.heap[g]? = some (.cells cur 56 (0, 0))) ∧ Sl w (.slice (some ⟨g, off + 1, none⟩) r.length r.length) r := by
  rcases h with ⟨rfl, h⟩ | ⟨g, off, cur, rfl, h1, h2, h3⟩
  · cases h
  · simp only [List.length_cons] at h2 h3
    have hd : ∃ t, cur.toList.drop off = Value.int .u64 a :: t ∧ t.take r.length = cu r := by
      cases hh : cur.toList.drop off with
      | nil => rw [hh] at h3; simp [cu] at h3
      | cons x t =>
        rw [hh] at h3
        simp only [List.take_succ_cons, cu, List.map_cons, List.cons.injEq] at h3
        exact ⟨t, by rw [h3.1], h3.2⟩
    obtain ⟨t, ht, h4⟩ := hd
    have hc : cur[off]? = some (.int .u64 a) := by
      have : (cur.toList.drop off)[0]? = some (.int .u64 a) := by rw [ht]; rfl
      rw [List.getElem?_drop] at this
      simpa using this
    refine ⟨g, off, rfl, by simp [World.cell?, h1, hc], h2, ⟨cur, h1⟩, .inr ⟨g, off + 1, cur, rfl, h1, by omega, ?_⟩⟩
    have : cur.toList.drop (off + 1) = t := by rw [← List.drop_drop, ht]; rfl
    rw [this]; exact h4

theorem Sl.tail {w : World} {g off : Nat} {r : List Int} (h : ∃ cur, w.heap[g]? = some (.cells cur 56 (0, 0))) (hs : Sl w (.slice (some ⟨g, off + 1, none⟩) r.length r.length) r) : Sl w (.slice (if r = [] then some ⟨g, off, none⟩ else some ⟨g, off + 1, none⟩) r.length r.length) r := by
  obtain ⟨cur, hc⟩ := h
  split
  · rename_i hr; subst hr
    exact .inr ⟨g, off, cur, rfl, hc, Nat.zero_le _, by simp [cu]⟩
  · exact hs
theorem conf_b' {a b : Bool} (h : a = b) : Ending.returned (.bool a) = .returned (.bool b) := by rw [h]
end Go.Proofs.Yteofdldlmmkgbaa

/-
  A region that draws its order, whose operations read, but for some calls that write and that stand in one order: what reads comes first, then the calls one behind the other. One walk serves every order.
-/
namespace Go.Proofs.Yteofdldlmmkgbaa
open Go.RowKit
set_option linter.unusedVariables false
/-- Worlds in which a block holds some cells. -/
structure BoxW (w : World) (q : Nat) (cs : Array Value) (T : TypeId) where
  val : World
  box : val.heap[q]? = some (.cells cs T (0, 0))
instance instBoxW (w : World) (q : Nat) (cs : Array Value) (T : TypeId) : Nonempty (BoxW w q cs T) := ⟨⟨{ w with heap := Array.replicate (q + 1) (.cells cs T (0, 0)) }, by simp⟩⟩
theorem BoxW.cell {w : World} {q : Nat} {cs : Array Value} {T : TypeId} (s : BoxW w q cs T) (o : Nat) : s.val.cell? ⟨q, o, none⟩ = cs[o]? := by
  have := s.box; unfold World.cell?; simp only; rw [this]; rfl
section
variable {P : Program} {ops : Array Oper} {md : Region.Mode} {D : World → Prop}

/-- An operation that neither calls nor writes. -/
def plainOp : Op → Bool
  | .move _ | .assign _ | .load .. | .fieldAddr .. | .indexAddr .. | .convert .. | .binOp .. | .unOp .. | .build .. | .field .. | .index .. => true
  | _ => false
theorem plain_value {ρ : Operand → Value} {o : Oper} (hp : plainOp o.op = true) {w w' : World} {n : Next} (h : (execOp ρ o).run P w = .ok n w') : ∃ v, n = .value v := by
  obtain ⟨dst, op, ty, ps, af, gd⟩ := o
  have key : ∀ (s : Sem Value), (do pure (Next.value (← s)) : Sem Next).run P w = .ok n w' → ∃ v, n = .value v := fun s hs => by
    simp only [Sem.run_bind] at hs
    generalize s.run P w = r at hs
    cases r with
    | ok v w2 => simp [Result.andThen] at hs; exact ⟨v, hs.1.symm⟩
    | halt x w2 => simp [Result.andThen] at hs
  cases op <;> simp only [plainOp, Bool.false_eq_true] at hp <;> first | (exact key _ h) | (simp [execOp] at h; exact ⟨_, h.1.symm⟩)

/-- In state a, in every world of the class, operation o leaves v in its temporary, and the world as it is. -/
def PureY (P : Program) (ops : Array Oper) (D : World → Prop) (o : Oper) (v : Value) (a : Act) : Prop :=
  (Region.wanted o (yielded ops a.tmps) = true ∧ ∀ w, D w → (execOp a.eval o).run P w = .ok (.value v) w) ∨ (Region.wanted o (yielded ops a.tmps) = false ∧ v = undef)
theorem PureY.of {o : Oper} {v : Value} {a : Act} (hp : plainOp o.op = true) (hy : YieldsIn P ops D o v a) : PureY P ops D o v a := by
  rcases hy with ⟨hw, hv⟩ | h
  · refine .inl ⟨hw, fun w hD => ?_⟩
    have h2 := hv w hD
    unfold Oper.quietAt at h2
    cases hr : (execOp a.eval o).run P w with
    | ok n w' =>
      rw [hr] at h2
      obtain ⟨u, rfl⟩ := plain_value hp hr
      simp only [Oper.quietUpon] at h2
      rw [h2.1, h2.2]
    | halt x w' => rw [hr] at h2; simp only [Oper.quietUpon] at h2
  · exact .inr h
theorem PureY.of_same {o : Oper} {v : Value} {a a' : Act} (hy : PureY P ops D o v a) (he : execOp a'.eval o = execOp a.eval o) (hw : Region.wanted o (yielded ops a'.tmps) = Region.wanted o (yielded ops a.tmps)) : PureY P ops D o v a' := by
  unfold PureY at *
  rw [he, hw]
  exact hy
theorem PureY.wpOp {Q : Exit → Act → World → Prop} {i : Nat} {o : Oper} {v : Value} {a : Act} {w : World} (hi : ops[i]? = some o) (hy : PureY P ops D o v a) (hD : D w) {K : Act → World → Prop} (h : K (a.put o.dst v) w) : wpOp P ops Q i K a w := by
  unfold Go.wpOp
  simp only [hi]
  rcases hy with ⟨hw, hv⟩ | ⟨hw, rfl⟩
  · simp only [hw, if_true, Oper.wp, hv w hD, Oper.upon]; exact .inl h
  · simp only [hw, Bool.false_eq_true, if_false]; exact h
/-- Another operation, apart from a reading one: it may come first. -/
theorem wpOp_swap {Q : Exit → Act → World → Prop} {j : Nat} {oi oj : Oper} {v : Value} (hj : ops[j]? = some oj) (hap : oi.apart ops oj = true) (hsi : ∀ cs b, oi.op ≠ .select cs b) (hsj : ∀ cs b, oj.op ≠ .select cs b)
    (hQ : ∀ c a w, Q (.panic c) (a.put oi.dst v) w → Q (.panic c) a w) {K : Act → World → Prop} {a : Act} {w : World} (hy : PureY P ops D oi v a) (h : Go.wpOp P ops Q j K (a.put oi.dst v) w) :
    Go.wpOp P ops Q j (fun a' w' => PureY P ops D oi v a' ∧ K (a'.put oi.dst v) w') a w := by
  obtain ⟨h1, h2, h3⟩ := Oper.apart_spec hap
  have kp : ∀ u, PureY P ops D oi v (a.put oj.dst u) := fun u => hy.of_same (execOp_put oi hsi a oj.dst u h3) (wanted_put oi a oj.dst u h3)
  have kd : ∀ d, PureY P ops D oi v (({ a with defers := d :: a.defers } : Act).put oj.dst undef) := fun d =>
    (show PureY P ops D oi v { a with defers := d :: a.defers } from hy.of_same rfl rfl).of_same (execOp_put oi hsi _ oj.dst _ h3) (wanted_put oi _ oj.dst _ h3)
  unfold Go.wpOp at *
  simp only [hj] at *
  rw [wanted_put oj a oi.dst v h1] at h
  by_cases hw : Region.wanted oj (yielded ops a.tmps) = true
  · rw [if_pos hw] at h ⊢
    rcases h with h | ⟨hasks, hlets⟩
    · left
      unfold Oper.wp at *
      rw [execOp_put oj hsj a oi.dst v h1] at h
      cases hr : (execOp a.eval oj).run P w with
      | halt x w' =>
        rw [hr] at h
        cases x <;> simp only [Oper.upon] at h ⊢
        exact hQ _ _ _ h
      | ok n w' =>
        rw [hr] at h
        cases n <;> simp only [Oper.upon] at h ⊢
        case value u => exact ⟨kp u, by rw [← Act.put_comm a v u h2]; exact h⟩
        case skip => exact ⟨kp _, by rw [← Act.put_comm a v undef h2]; exact h⟩
        case defer d => exact ⟨kd d, by rw [← Act.put_comm _ v undef h2, ← Act.put_defers]; exact h⟩
        case enter f args =>
          refine Calls.mono h fun e w'' he => ?_
          cases e with
          | returned u => exact ⟨kp u, by rw [← Act.put_comm a v u h2]; exact he⟩
          | panicked c => exact hQ _ _ _ he
          | outgrown => exact he
        case row row args => exact Rows.mono h fun u w'' he => ⟨kp u, by rw [← Act.put_comm a v u h2]; exact he⟩
    · right
      exact ⟨by unfold Oper.asks at *; rw [execOp_put oj hsj a oi.dst v h1] at hasks; exact hasks, hlets⟩
  · rw [if_neg hw] at h ⊢
    exact ⟨kp _, by rw [← Act.put_comm a v undef h2]; exact h⟩

/-- Whatever order; behind each operation the class still holds. -/
def anyD (P : Program) (md : Region.Mode) (ops : Array Oper) (D : World → Prop) (Q : Exit → Act → World → Prop) : Nat → Array Bool → Act → World → Prop
  | 0, seen, a, w => Region.ready md ops seen = [] ∧ Q .normal a w
  | f + 1, seen, a, w => (Region.ready md ops seen = [] → Q .normal a w) ∧ ∀ i, i ∈ Region.ready md ops seen → Go.wpOp P ops Q i (fun a' w' => D w' ∧ anyD P md ops D Q f (seen.setIfInBounds i true) a' w') a w
theorem any_of_D {Q : Exit → Act → World → Prop} (f : Nat) : ∀ (seen : Array Bool) (a : Act) (w : World), anyD P md ops D Q f seen a w → wpAny P md ops Q f seen a w := by
  induction f with
  | zero => intro seen a w h; exact h
  | succ f ih => intro seen a w h; exact ⟨h.1, fun i hi => wpOp_mono (fun a' w' h' => ih _ a' w' h'.2) (h.2 i hi)⟩
theorem anyD_first {Q : Exit → Act → World → Prop} {i : Nat} {oi : Oper} {v : Value} (hi : ops[i]? = some oi) (hsel : ∀ (j : Nat) (o : Oper) cs b, ops[j]? = some o → o.op ≠ .select cs b) (hQ : ∀ c a w, Q (.panic c) (a.put oi.dst v) w → Q (.panic c) a w) (f : Nat) :
    ∀ (seen : Array Bool) (a : Act) (w : World),
      (∀ j oj, ops[j]? = some oj → j ≠ i → seen.getD j true = false → (∀ e, e ∈ oj.after → Region.binds md e = true → e.on ≠ i) → oi.apart ops oj = true) →
      i ∈ Region.ready md ops seen → PureY P ops D oi v a → D w → anyD P md ops D Q f (seen.setIfInBounds i true) (a.put oi.dst v) w → anyD P md ops D Q (f + 1) seen a w := by
  induction f with
  | zero =>
    intro seen a w _ hr hy hD H
    refine ⟨fun h => by rw [h] at hr; simp at hr, fun j hj => ?_⟩
    by_cases hji : j = i
    · rw [hji]; exact hy.wpOp hi hD ⟨hD, H⟩
    · have := ready_mono hj hji
      rw [H.1] at this
      simp at this
  | succ f ih =>
    intro seen a w hfree hr hy hD H
    refine ⟨fun h => by rw [h] at hr; simp at hr, fun j hj => ?_⟩
    by_cases hji : j = i
    · rw [hji]; exact hy.wpOp hi hD ⟨hD, H⟩
    have hun : seen.getD i true = false := (mem_ready.1 hr).1
    obtain ⟨hjun, oj, hoj, hall⟩ := mem_ready.1 hj
    have hno : ∀ e, e ∈ oj.after → Region.binds md e = true → e.on ≠ i := by
      intro e he hb heq
      have := hall e he hb
      rw [heq, getD_both hun] at this
      exact absurd this (by simp)
    have st := wpOp_swap hoj (hfree j oj hoj hji hjun hno) (fun cs b => hsel i oi cs b hi) (fun cs b => hsel j oj cs b hoj) hQ hy (H.2 j (ready_mono hj hji))
    refine wpOp_mono (fun a' w' h3 => ⟨h3.2.1, ?_⟩) st
    refine ih _ a' w' (fun k ok hk hki hunk hnok => hfree k ok hk hki ?_ hnok) (ready_mono hr (Ne.symm hji)) h3.1 h3.2.1 ?_
    · by_cases hjk : j = k
      · rw [← hjk]; exact hjun
      · rwa [getD_set_ne true hjk] at hunk
    · rw [Array.setIfInBounds_comm _ _ hji]; exact h3.2.2

/-- The calls, one behind the other; behind each the class still holds. -/
def tailD (P : Program) (ops : Array Oper) (D : World → Prop) (Q : Exit → Act → World → Prop) : List Nat → Act → World → Prop
  | [], a, w => Q .normal a w
  | i :: r, a, w => Go.wpOp P ops Q i (fun a' w' => D w' ∧ tailD P ops D Q r a' w') a w
def soloB (md : Region.Mode) (ops : Array Oper) : List Nat → Array Bool → Bool
  | [], seen => (Region.ready md ops seen).isEmpty
  | i :: r, seen => decide (Region.ready md ops seen = [i]) && soloB md ops r (seen.setIfInBounds i true)
theorem anyD_of_tail {Q : Exit → Act → World → Prop} : ∀ (t : List Nat) (seen : Array Bool) (a : Act) (w : World), soloB md ops t seen = true → tailD P ops D Q t a w → anyD P md ops D Q t.length seen a w
  | [], _, _, _, hB, h => ⟨by simpa [soloB] using hB, h⟩
  | i :: r, seen, a, w, hB, h => by
    simp only [soloB, Bool.and_eq_true, decide_eq_true_eq] at hB
    refine ⟨fun h1 => (by rw [hB.1] at h1; cases h1), fun j hj => ?_⟩
    rw [hB.1] at hj
    have hji : j = i := by simpa using hj
    subst hji
    exact wpOp_mono (fun a' w' h' => ⟨h'.1, anyD_of_tail r _ a' w' hB.2 h'.2⟩) h
def frontB (md : Region.Mode) (ops : Array Oper) (t : List Nat) : List Nat → Array Bool → Bool
  | [], seen => soloB md ops t seen
  | i :: p, seen => (Region.ready md ops seen).contains i && Region.free md ops seen i && (match ops[i]? with | some o => plainOp o.op | none => false) && frontB md ops t p (seen.setIfInBounds i true)
def pickL (l : List Oper) : List Nat → List Oper
  | [] => []
  | i :: r => (l.drop i).take 1 ++ pickL l r
theorem pickL_cons (l : List Oper) (i : Nat) (r : List Nat) : pickL l (i :: r) = (l.drop i).take 1 ++ pickL l r := rfl
theorem pickL_nil (l : List Oper) : pickL l [] = [] := rfl
theorem drop_one {l : List Oper} {i : Nat} {o : Oper} (h : l[i]? = some o) : (l.drop i).take 1 = [o] := by
  have hi : i < l.length := (List.getElem?_eq_some_iff.1 h).1
  rw [List.drop_eq_getElem_cons hi]
  simp [(List.getElem?_eq_some_iff.1 h).2]
theorem anyD_of_front {Q : Exit → Act → World → Prop} (hsel : Region.noSelect ops = true) (hQ : ∀ c (d : Option Nat) v a w, Q (.panic c) (a.put d v) w → Q (.panic c) a w) (t : List Nat) (w : World) (hD : D w) :
    ∀ (p : List Nat) (seen : Array Bool) (a : Act), frontB md ops t p seen = true → wpQuiet P ops D (fun a' => tailD P ops D Q t a' w) (pickL ops.toList p) a → anyD P md ops D Q (p.length + t.length) seen a w
  | [], seen, a, hB, h => by simpa using anyD_of_tail t seen a w hB h
  | i :: p, seen, a, hB, h => by
    simp only [frontB, Bool.and_eq_true] at hB
    obtain ⟨⟨⟨hr, hf⟩, hp⟩, hB'⟩ := hB
    cases ho : ops[i]? with
    | none => rw [ho] at hp; cases hp
    | some o =>
      rw [ho] at hp
      have hd : (ops.toList.drop i).take 1 = [o] := drop_one (by rw [Array.getElem?_toList]; exact ho)
      rw [pickL_cons, hd, List.singleton_append] at h
      have hq : qOp P ops D i (wpQuiet P ops D (fun a' => tailD P ops D Q t a' w) (pickL ops.toList p)) a := by unfold qOp; simp only [ho]; exact h
      obtain ⟨v, hy, hK⟩ := yieldsIn_of_qOp ho hq
      have e : (i :: p).length + t.length = (p.length + t.length) + 1 := by simp only [List.length_cons]; omega
      rw [e]
      exact anyD_first ho (Region.noSelect_spec hsel) (fun c a w => hQ c _ _ a w) _ seen a w (Region.free_spec ho hf) (by simpa using hr) (PureY.of hp hy) hD (anyD_of_front hsel hQ t w hD p _ _ hB' hK)
theorem tailD_call {Q : Exit → Act → World → Prop} {i : Nat} {r : List Nat} {o : Oper} {a : Act} {w : World} (hi : ops[i]? = some o) (hg : o.guard = none) (f : FuncId) (args : Array Value) (hrun : (execOp a.eval o).run P w = .ok (.enter f args) w)
    (h : Calls P f args w fun e w' => ∃ v, e = .returned v ∧ D w' ∧ tailD P ops D Q r (a.put o.dst v) w') : tailD P ops D Q (i :: r) a w := by
  have hw : Region.wanted o (yielded ops a.tmps) = true := by simp [Region.wanted, hg]
  unfold tailD Go.wpOp
  simp only [hi]
  rw [if_pos hw]
  left
  unfold Oper.wp
  rw [hrun]
  simp only [Oper.upon]
  refine h.mono fun e w' ⟨v, he, hD, ht⟩ => ?_
  subst he
  exact ⟨hD, ht⟩
theorem tailD_value {Q : Exit → Act → World → Prop} {i : Nat} {r : List Nat} {o : Oper} {a : Act} {w : World} {v : Value} (hi : ops[i]? = some o) (hg : o.guard = none) (hD : D w) (hrun : (execOp a.eval o).run P w = .ok (.value v) w)
    (h : tailD P ops D Q r (a.put o.dst v) w) : tailD P ops D Q (i :: r) a w := by
  have hw : Region.wanted o (yielded ops a.tmps) = true := by simp [Region.wanted, hg]
  unfold tailD Go.wpOp
  simp only [hi]
  rw [if_pos hw]
  left
  unfold Oper.wp
  rw [hrun]
  simp only [Oper.upon]
  exact ⟨hD, h⟩
theorem wp_region_front {id : Nat} {Q : Exit → Act → World → Prop} {a : Act} {w : World} {l : List Oper} (p t : List Nat) (hm : P.follows .mixedOrders = true) (hsel : Region.noSelect l.toArray = true) (hlen : p.length + t.length = l.toArray.size)
    (hB : frontB .any l.toArray t p (Array.replicate l.toArray.size false) = true) (hQ : ∀ c (d : Option Nat) v a w, Q (.panic c) (a.put d v) w → Q (.panic c) a w) (hD : D w.drew)
    (h : wpQuiet P l.toArray D (fun a' => tailD P l.toArray D Q t a' w.drew) (pickL l p) a) : (Code.region id l.toArray true).wp P Q a w := by
  refine wp_region_any hm ?_
  have := any_of_D _ _ _ _ (anyD_of_front hsel hQ t w.drew hD p _ a hB h)
  rw [hlen] at this
  exact this
end
end Go.Proofs.Yteofdldlmmkgbaa
