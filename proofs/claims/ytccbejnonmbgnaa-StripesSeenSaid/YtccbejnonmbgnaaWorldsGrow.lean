/-
  WorldsGrow.
-/
import Derived.Test.YtccbejnonmbgnaaWorldsFull
namespace Go.Proofs.Ytccbejnonmbgnaa
open Go.RowKit Go.Maps
set_option linter.unusedVariables false

theorem as_free (b : Int) (h : 1 ≤ b ∧ b ≤ 12) : asOld (tword b 0) = b ∧ asNow (tword b 0) = 0 := by
  have : b = 1 ∨ b = 2 ∨ b = 3 ∨ b = 4 ∨ b = 5 ∨ b = 6 ∨ b = 7 ∨ b = 8 ∨ b = 9 ∨ b = 10 ∨ b = 11 ∨ b = 12 := by omega
  rcases this with rfl | rfl | rfl | rfl | rfl | rfl | rfl | rfl | rfl | rfl | rfl | rfl <;> decide
theorem as_both (b : Int) (h : 1 ≤ b ∧ b ≤ 11) : asOld (tword b (b + 1)) = b ∧ asNow (tword b (b + 1)) = b + 1 := by
  have : b = 1 ∨ b = 2 ∨ b = 3 ∨ b = 4 ∨ b = 5 ∨ b = 6 ∨ b = 7 ∨ b = 8 ∨ b = 9 ∨ b = 10 ∨ b = 11 := by omega
  rcases this with rfl | rfl | rfl | rfl | rfl | rfl | rfl | rfl | rfl | rfl | rfl <;> decide
theorem tsize_pos (b : Int) (h : 1 ≤ b ∧ b ≤ 12) : (tsize b == 0) = false := by
  have : b = 1 ∨ b = 2 ∨ b = 3 ∨ b = 4 ∨ b = 5 ∨ b = 6 ∨ b = 7 ∨ b = 8 ∨ b = 9 ∨ b = 10 ∨ b = 11 ∨ b = 12 := by omega
  rcases this with rfl | rfl | rfl | rfl | rfl | rfl | rfl | rfl | rfl | rfl | rfl | rfl <;> decide
theorem spots_free (b : Int) (h : 1 ≤ b ∧ b ≤ 12) : spots (tword b 0) = 4 * tsize b := by
  unfold spots; rw [(as_free b h).1, (as_free b h).2]; simp [tsize]
theorem spots_both (b : Int) (h : 1 ≤ b ∧ b ≤ 11) : spots (tword b (b + 1)) = 4 * (tsize b + tsize (b + 1)) := by
  unfold spots; rw [(as_both b h).1, (as_both b h).2]
theorem pmay_is (f g b : Int) (hf : 1 ≤ f ∧ f ≤ 12) (hg : 1 ≤ g ∧ g ≤ 65536) (hb : 1 ≤ b ∧ b ≤ 12) : pmay f g b = (decide (b < 12) && decide (spots (tword b (b + 1)) ≤ 8 * max g (spots (tword f 0)))) := by
  rw [spots_free f hf]
  unfold pmay
  rw [tsize_pos f hf, tsize_pos b hb, show min g 65536 = g by omega]
  by_cases h : b < 12
  · rw [spots_both b ⟨hb.1, by omega⟩, tsize_pos (b + 1) (by omega), decide_eq_true h]; rfl
  · obtain rfl : b = 12 := by omega
    rfl

theorem grows_free {w0 w : World} {wb cb : Nat} {c : Conf} {s : CS} (h : Wld w0 w wb cb c s) (hg : (Lit.int .i64 c.budget).wf = true) (b : Int) (hb : 1 ≤ b ∧ b ≤ 12) (hv : s.val 2 = tword b 0) : Calls Try.prog 33 #[.pointer (some ⟨wb, 0, none⟩)] w fun e w' => e = .returned (.bool (pmay c.bits c.budget b)) ∧ Below w.heap.size w w' := by
  have := grows_any h hg
  rw [hv, (as_free b hb).1, (as_free b hb).2] at this
  exact this
theorem grows_both {w0 w : World} {wb cb : Nat} {c : Conf} {s : CS} (h : Wld w0 w wb cb c s) (hg : (Lit.int .i64 c.budget).wf = true) (b : Int) (hb : 1 ≤ b ∧ b ≤ 11) (hv : s.val 2 = tword b (b + 1)) : Calls Try.prog 33 #[.pointer (some ⟨wb, 0, none⟩)] w fun e w' => e = .returned (.bool false) ∧ Below w.heap.size w w' := by
  have := grows_any h hg
  rw [hv, (as_both b hb).1, (as_both b hb).2, show ((b + 1) == 0) = false from beq_eq_false_iff_ne.2 (by omega)] at this
  exact this

set_option maxRecDepth 10000 in
set_option maxHeartbeats 1000000 in
theorem wgrow_ok (c : Conf) (hc : c.ok = true) (w : World) : Calls Try.prog 5 #[.agg #[.int .i64 c.bits, .int .i64 c.budget, .int .i64 c.tries, .int .i64 c.quantum, .int .i64 c.way]] w
    fun e w' => e = .returned (.bool true) ∧ Below w.heap.size w w' := by
  have hb : 1 ≤ c.budget ∧ c.budget ≤ 65536 := by simp only [Conf.ok, Bool.and_eq_true, decide_eq_true_eq] at hc; omega
  have ht : 1 ≤ c.bits ∧ c.bits ≤ 12 := by simp only [Conf.ok, Bool.and_eq_true, decide_eq_true_eq] at hc; omega
  have hbw : (Lit.int .i64 c.budget).wf = true := by
    have hmin : IntKind.i64.min = -9223372036854775808 := rfl
    have hmax : IntKind.i64.max = 9223372036854775807 := rfl
    simp only [Lit.wf, Bool.and_eq_true, decide_eq_true_eq]; omega
  have hq0 := heap_alloc_new w (.cells #[.int .i64 c.bits, .int .i64 c.budget, .int .i64 c.tries, .int .i64 c.quantum, .int .i64 c.way] 44)
  have hB1 : Below w.heap.size w (w.alloc (.cells #[.int .i64 c.bits, .int .i64 c.budget, .int .i64 c.tries, .int .i64 c.quantum, .int .i64 c.way] 44)) := (Below.refl _ _).alloc (Nat.le_refl _) _
  have hw1 := new_wld hB1 c hc
  have hS := spots_free c.bits ht
  have hs1 := tsize_le c.bits
  obtain ⟨S, hSS⟩ : ∃ S, S = spots (tword c.bits 0) := ⟨_, rfl⟩
  have hsp := fun w => spots_any (tword c.bits 0) (tword_wf _ _) w
  rw [← hSS] at hsp
  have hS2 : 0 ≤ S ∧ S ≤ 1000000 := by rw [hSS, hS]; omega
  obtain ⟨M, hM⟩ : ∃ M, M = max c.budget S := ⟨_, rfl⟩
  have HQ := Lib.hid hq0
  have HT := Lib.hid ht; have HW := Lib.hid hbw; have HB := Lib.hid hb; have HC := Lib.hid hc; have HM := Lib.hid hM; have HS := Lib.hid hSS
  have hM3 : wrap64 (8 * M) = 8 * M := IntWalk.wrap64_in _ (by omega)
  clear hb hc hB1 hq0 ht hS hs1 hbw hSS hM
  go_enter Try.func5, Try.ntmps5
  go_wp2_with (first
    | (go_at_call 28; refine hw1.mono ?_; rintro e w1 ⟨wb, cb, s, rfl, h1, n1, b1⟩; clear hw1; obtain ⟨hq1, q0, q1, q2, q3, q4⟩ := box5 HQ.out b1; have HQ1 := Lib.hid hq1; clear hq1 b1))
  obtain ⟨c0, -, -⟩ := h1.cell
  have H1 := Lib.hid h1; have HN := Lib.hid n1; clear h1 n1
  have x0 := fun st : ExtW w1 => st.cell q0
  have x1 := fun st : ExtW w1 => st.cell q1
  have k1 : ∀ st : ExtW w1, Calls Try.prog 32 #[.int .i64 c.bits, .int .i64 0] st.val fun e w' => e = .returned (.int .u64 (tword c.bits 0)) ∧ st.val = w' := fun st => (word_any c.bits 0 st.val).mono fun e w' ⟨he, hw⟩ => ⟨he, hw.symm⟩
  have k2 : ∀ st : ExtW w1, Calls Try.prog 31 #[.int .u64 (tword c.bits 0)] st.val fun e w' => e = .returned (.int .i64 S) ∧ st.val = w' := fun st => (hsp st.val).mono fun e w' ⟨he, hw⟩ => ⟨he, hw.symm⟩
  refine wp_region_ext (by kernel_rfl) (by kernel_rfl) ?_
  repeat (go_big_quiet_step (first | (go_at_call 32; with_reducible refine calls_ext_same (k1 _)) | (go_at_call 31; with_reducible refine calls_ext_same (k2 _))))
  refine wpQuiet_nil ?_
  rintro W ⟨⟨W2, hW⟩, rfl⟩
  have H2 := Lib.hid (H1.out.keep hW); have HQ2 := Lib.hid (box5 HQ1.out hW).1
  clear x0 x1 k1 k2 q0 q1 q2 q3 q4 hsp c0 hW hS2
  have hite : (if c.budget < S then S else c.budget) = M := by rw [HM.out]; split <;> omega
  simp only [hite]
  clear hite
  go_wp2
  simp only [hM3]
  go_loopw [5, 7] (fun bv iv wr => ∃ (b i : Int) (s' : CS), bv = .int .i64 b ∧ iv = .int .i64 i ∧ b = c.bits + i ∧ 0 ≤ i ∧ b ≤ 12 ∧ Wld w wr wb cb c s' ∧ s'.val 2 = tword b 0 ∧ (s'.n ≤ 100 + 2 * i.toNat ∧ s'.cnt ≤ 100 + 2 * i.toNat) ∧ wr.heap[w.heap.size]? = some (.cells #[.int .i64 c.bits, .int .i64 c.budget, .int .i64 c.tries, .int .i64 c.quantum, .int .i64 c.way] 44 (0, 0))) (fun _ i _ => 12 - (intOf i).toNat)
  case atStart => exact ⟨c.bits, 0, s, rfl, rfl, by omega, by omega, HT.out.2, H2.out, HN.out.v2, ⟨by rw [HN.out.n]; omega, by rw [HN.out.cnt]; omega⟩, HQ2.out⟩
  case round =>
    clear H1 H2 HN HQ1 HQ2 HQ
    obtain ⟨b, i, s', rfl, rfl, hbi, hi0, hb12, h1, hv, hn, hq⟩ := hrel
    have d1 : i < 12 := by have := HT.out.1; omega
    have wi : wrap64 (i + 1) = i + 1 := IntWalk.wrap64_in _ (by omega)
    have wb1 : wrap64 (b + 1) = b + 1 := IntWalk.wrap64_in _ (by have := HT.out.1; omega)
    have b1 : 1 ≤ b := by have := HT.out.1; omega
    obtain ⟨c0, -, -⟩ := h1.cell
    have hgr := grows_free h1 HW.out b ⟨b1, hb12⟩ hv
    have hpm := pmay_is c.bits c.budget b HT.out HB.out ⟨b1, hb12⟩
    rw [← HS.out, ← HM.out] at hpm
    obtain ⟨T, hT⟩ : ∃ T, T = spots (tword b (b + 1)) := ⟨_, rfl⟩
    have hsp := fun w => spots_any (tword b (b + 1)) (tword_wf _ _) w
    rw [← hT] at hsp hpm
    cases hp : pmay c.bits c.budget b
    · rw [hp] at hpm
      have hg2 : ∀ w', Wld w w' wb cb c s' → Calls Try.prog 33 #[.pointer (some ⟨wb, 0, none⟩)] w' fun e w'' => e = .returned (.bool false) ∧ Below w'.heap.size w' w'' := fun w' h => by
        have := grows_free h HW.out b ⟨b1, hb12⟩ hv
        rwa [hp] at this
      have H1 := Lib.hid h1; have HQ := Lib.hid hq; have HP := Lib.hid hpm; have HC2 := HC.out
      have HV := Lib.hid hT
      by_cases hlt : b < 12
      · have d2 : ¬ (T ≤ 8 * M) := by rw [decide_eq_true hlt, Bool.true_and] at hpm; exact of_decide_eq_false hpm.symm
        clear hpm hp hbi hi0 hb12 b1 hv hn h1 hq hT hgr c0 HC2
        go_wp2_with (first
          | (go_at_call 33; with_reducible refine (hg2 _ H1.out).mono ?_; rintro e w2 ⟨rfl, b2⟩; have h2 := H1.out.keep b2; have HQ2 := Lib.hid (box5 HQ.out b2).1; clear H1)
          | (go_at_call 33; with_reducible refine (hg2 _ h2).mono ?_; rintro e w3 ⟨rfl, b3⟩; have h3 := h2.keep b3; obtain ⟨hq3, q0, q1, q2, q3, q4⟩ := box5 HQ2.out b3; have HQ3 := Lib.hid hq3; clear hq3 h2)
          | (go_at_call 32; refine (word_any _ _ _).mono ?_; rintro e w3 ⟨rfl, rfl⟩)
          | (go_at_call 31; refine (hsp _).mono ?_; rintro e w3 ⟨rfl, rfl⟩)
          | (go_at_call 29; refine (wmay_any c _).mono ?_; rw [HC.out]; rintro e w4 ⟨rfl, b4⟩; have h4 := h3.keep b4)
          | (go_at_call 30; refine (lives10 _).mono ?_; rintro e w6 ⟨rfl, b6⟩; have h6 := h4.keep b6))
        go_ret
        exact ⟨rfl, h6.own.below⟩
      · clear hpm hp hbi hi0 hb12 b1 hv hn h1 hq hT hgr c0 HC2
        go_wp2_with (first
          | (go_at_call 33; with_reducible refine (hg2 _ H1.out).mono ?_; rintro e w2 ⟨rfl, b2⟩; have h2 := H1.out.keep b2; have HQ2 := Lib.hid (box5 HQ.out b2).1; clear H1)
          | (go_at_call 33; with_reducible refine (hg2 _ h2).mono ?_; rintro e w3 ⟨rfl, b3⟩; have h3 := h2.keep b3; obtain ⟨hq3, q0, q1, q2, q3, q4⟩ := box5 HQ2.out b3; have HQ3 := Lib.hid hq3; clear hq3 h2)
          | (go_at_call 29; refine (wmay_any c _).mono ?_; rw [HC.out]; rintro e w4 ⟨rfl, b4⟩; have h4 := h3.keep b4)
          | (go_at_call 30; refine (lives10 _).mono ?_; rintro e w6 ⟨rfl, b6⟩; have h6 := h4.keep b6))
        go_ret
        exact ⟨rfl, h6.own.below⟩
    · rw [hp] at hgr hpm
      have hpm' := hpm.symm
      simp only [Bool.and_eq_true, decide_eq_true_eq] at hpm'
      have d2 : ¬ (8 * M < T) := by omega
      have HI := Lib.hid (And.intro hbi hi0); have HBB := Lib.hid (And.intro b1 hpm'.1); have HV := Lib.hid hv; have HN := Lib.hid hn; have H1 := Lib.hid h1; have HQ := Lib.hid hq
      clear hpm hpm' hp hbi hi0 hb12 b1 hv hn h1 hq hT
      go_wp2_with (first
        | (go_at_call 33; with_reducible refine hgr.mono ?_; rintro e w2 ⟨rfl, b2⟩; have h2 := H1.out.keep b2; have HQ2 := Lib.hid (box5 HQ.out b2).1; clear hgr c0; obtain ⟨c0, -, -⟩ := h2.cell)
        | (go_at_call 32; refine (word_any _ _ _).mono ?_; rintro e w3 ⟨rfl, rfl⟩)
        | (go_at_call 34; refine (h2.store (CS.room_of _ HN.out (by have := HI.out; unfold lim; omega)) 2 (by decide) _ (tword_wf _ _)).mono ?_; rintro e w4 ⟨rfl, h4, r4⟩; have HQ4 := Lib.hid (box5r HQ2.out r4 rfl rfl).1; clear h2 c0)
        | (go_at_call 31; refine (hsp _).mono ?_; rintro e w3 ⟨rfl, rfl⟩)
        | (go_at_call 33; refine (grows_both h4 HW.out b ⟨HBB.out.1, by have := HBB.out.2; omega⟩ (CS.acc_self _ _ _)).mono ?_; rintro e w5 ⟨rfl, b5⟩; have h5 := h4.keep b5; have HQ5 := Lib.hid (box5 HQ4.out b5).1; clear h4))
      have k5 := fun st : ExtW w5 => st.cell h5.cell.1
      have k6 : ∀ st : ExtW w5, Calls Try.prog 32 #[.int .i64 (b + 1), .int .i64 0] st.val fun e w' => e = .returned (.int .u64 (tword (b + 1) 0)) ∧ st.val = w' := fun st => (word_any (b + 1) 0 st.val).mono fun e w' ⟨he, hw⟩ => ⟨he, hw.symm⟩
      simp only [wb1]
      refine wp_region_ext_tail 6 (by kernel_rfl) (by kernel_rfl) ?_
      simp only [List.take_succ_cons, List.take_zero, List.drop_succ_cons, List.drop_zero]
      repeat (go_big_quiet_step (first | (go_at_call 32; with_reducible refine calls_ext_same (k6 _))))
      refine wpQuiet_nil ?_
      rintro W ⟨⟨W2, hW⟩, rfl⟩
      have h6 := h5.keep hW; have HQ6 := Lib.hid (box5 HQ5.out hW).1
      clear k5 k6 h5 hW
      go_wp2_with (go_at_call 34; refine (h6.store (CS.room_of _ (room_acc _ HN.out) (by have := HI.out; unfold lim; omega)) 2 (by decide) _ (tword_wf _ _)).mono ?_; rintro e w7 ⟨rfl, h7, r7⟩; have HQ7 := Lib.hid (box5r HQ6.out r7 rfl rfl).1)
      go_roundw
      case rel => exact ⟨b + 1, i + 1, _, rfl, by go_num, by have := HI.out; omega, by have := HI.out; omega, by have := HBB.out; omega, h7, CS.acc_self _ _ _, ⟨by have := HN.out; have := HI.out; simp only [CS.acc]; omega, by have := HN.out; have := HI.out; simp only [CS.acc]; omega⟩, HQ7.out⟩
      case measure => have := HI.out; simp [intOf]; omega

set_option maxRecDepth 10000 in
theorem wgrow_bad (c : Conf) (hc : c.ok = false) (w : World) : Calls Try.prog 5 #[.agg #[.int .i64 c.bits, .int .i64 c.budget, .int .i64 c.tries, .int .i64 c.quantum, .int .i64 c.way]] w
    fun e w' => e = .returned (.bool true) ∧ Below w.heap.size w w' := by
  have hw1 := wnew_bad c hc (w.alloc (.cells #[.int .i64 c.bits, .int .i64 c.budget, .int .i64 c.tries, .int .i64 c.quantum, .int .i64 c.way] 44))
  have HQ := Lib.hid (heap_alloc_new w (.cells #[.int .i64 c.bits, .int .i64 c.budget, .int .i64 c.tries, .int .i64 c.quantum, .int .i64 c.way] 44))
  have HC := Lib.hid hc
  clear hc
  go_enter Try.func5, Try.ntmps5
  go_wp2_with (first
    | (go_at_call 28; refine hw1.mono ?_; rintro e w1 ⟨rfl, b1⟩; obtain ⟨hq3, q0, q1, q2, q3, q4⟩ := box5 HQ.out b1)
    | (go_at_call 29; refine (wmay_any c _).mono ?_; rw [HC.out]; rintro e w4 ⟨rfl, b4⟩)
    | (go_at_call 30; refine (lives10 _).mono ?_; rintro e w6 ⟨rfl, b6⟩))
  go_ret
  have s1 := b1.size
  exact ⟨rfl, ((Below.refl _ w).alloc (Nat.le_refl _) _).trans ((b1.trans ((b4.mono s1).trans (b6.mono (Nat.le_trans s1 b4.size)))).mono (by simp))⟩

set_option maxRecDepth 10000 in
theorem walkWorldsGrow {H : Type} (w : World) (enc : TypeId × Value → H) (base : Nat) (v : Value) (d : DataW H) (p : List MemPlace) (k : DataW.Trod enc Try.prog w 0 (fun _ => true) true 44 v d p) (o : Value.okWide Try.prog w .any base 44 v) :
    Calls Try.prog 5 #[v] w fun e w' => e = .returned (.bool true) ∧ Below w.heap.size w w' := by
  obtain ⟨c, rfl, hc⟩ := conf_of (n := 0) k o
  cases h : c.ok
  · exact wgrow_bad c h w
  · exact wgrow_ok c h w
end Go.Proofs.Ytccbejnonmbgnaa
