/-
  Places: is there a bucket, its stripe, its version's address; the document's, too.
-/
import Derived.Test.YtmakjfeepmiggaaGreatPlaces
namespace Go.Proofs.YtmakjfeepmiggaaGreat
open Go.RowKit
set_option linter.unusedVariables false

def hasP (b u : Int) : Bool := decide (0 ≤ u) && decide (u < tsize b)
def stripe (b u : Int) : Int := (u + 31 * b) % 64
def ver (b u : Int) : Int := if hasP b u then 64 + stripe b u else 0
theorem hasP_bits {b u : Int} (h : hasP b u = true) : 1 ≤ b ∧ b ≤ 12 ∧ 0 ≤ u ∧ u < 4096 := by
  simp only [hasP, Bool.and_eq_true, decide_eq_true_eq] at h
  by_cases hb : b < 1 ∨ 12 < b
  · rw [tsize_out hb] at h; omega
  · have h1 := tsize_in (b := b) (by omega)
    rcases twelve (b := b) (by omega) with rfl | rfl | rfl | rfl | rfl | rfl | rfl | rfl | rfl | rfl | rfl | rfl <;> (rw [h1] at h; simp at h; omega)
theorem ver_wf (b u : Int) : (Lit.int .u64 (ver b u)).wf = true := by
  have hmin : IntKind.u64.min = 0 := rfl
  have hmax : IntKind.u64.max = 18446744073709551615 := rfl
  have h : 0 ≤ ver b u ∧ ver b u < 128 := by unfold ver stripe; split <;> omega
  generalize ver b u = t at *
  simp only [Lit.wf, Bool.and_eq_true, decide_eq_true_eq]; omega
theorem box2 (w : World) (b u : Int) (T : TypeId) : ∀ o, (w.alloc (.cells #[.int .i64 b, .int .i64 u] T)).cell? ⟨w.heap.size, o, none⟩ = (#[.int .i64 b, .int .i64 u] : Array Value)[o]? := fun o => by
  have := heap_alloc_new w (.cells #[.int .i64 b, .int .i64 u] T)
  unfold World.cell?; simp only; rw [this]; rfl
theorem below_alloc (w : World) (o : Obj) : Below w.heap.size w (w.alloc o) := (Below.refl _ _).alloc (Nat.le_refl _) _
theorem size_ext (b : Int) {w : World} (st : ExtW w) : Calls Tryz.prog 49 #[.int .i64 b] st.val fun e w' => e = .returned (.int .i64 (tsize b)) ∧ st.val = w' :=
  (size_any b st.val).mono fun e w' ⟨he, hw⟩ => ⟨he, hw.symm⟩

theorem there_any (b u : Int) (w : World) : Calls Tryz.prog 122 #[.agg #[.int .i64 b, .int .i64 u]] w fun e w' => e = .returned (.bool (hasP b u)) ∧ Below w.heap.size w w' := by
  have x0 := fun st : ExtW (w.alloc (.cells #[.int .i64 b, .int .i64 u] 69)) => st.cell (box2 w b u 69 0)
  have x1 := fun st : ExtW (w.alloc (.cells #[.int .i64 b, .int .i64 u] 69)) => st.cell (box2 w b u 69 1)
  have hB := below_alloc w (.cells #[.int .i64 b, .int .i64 u] 69)
  unfold hasP
  cases h0 : decide (0 ≤ u)
  all_goals
    go_enter Tryz.func122, Tryz.ntmps122
    go_wp2
    refine wp_region_ext (by kernel_rfl) (by kernel_rfl) ?_
    repeat (go_big_quiet_step ((go_at_call 49; with_reducible refine calls_ext_same (size_ext _ _))))
    refine wpQuiet_nil ?_
    rintro W ⟨⟨W2, hW⟩, rfl⟩
    clear x0 x1
    go_wp2
    go_ret
    exact ⟨rfl, hB.trans (hW.mono hB.size)⟩
theorem stripe_in (b u : Int) (h : hasP b u = true) (w : World) : Calls Tryz.prog 196 #[.agg #[.int .i64 b, .int .i64 u]] w fun e w' => e = .returned (.int .i64 (stripe b u)) ∧ Below w.heap.size w w' := by
  have hb := hasP_bits h
  have x0 := fun st : ExtW (w.alloc (.cells #[.int .i64 b, .int .i64 u] 69)) => st.cell (box2 w b u 69 0)
  have x1 := fun st : ExtW (w.alloc (.cells #[.int .i64 b, .int .i64 u] 69)) => st.cell (box2 w b u 69 1)
  have hB := below_alloc w (.cells #[.int .i64 b, .int .i64 u] 69)
  simp only [hasP, Bool.and_eq_true, decide_eq_true_eq] at h
  have h0 : decide (u < 0) = false := decide_eq_false (by omega)
  have h1 : decide (tsize b ≤ u) = false := decide_eq_false (by omega)
  have e1 : wrap64 (31 * b) = 31 * b := IntWalk.wrap64_in _ (by omega)
  have e2 : wrap64 (u + 31 * b) = u + 31 * b := IntWalk.wrap64_in _ (by omega)
  have e3 : (u + 31 * b).tmod 64 = stripe b u := by unfold stripe; rw [Int.tmod_eq_emod_of_nonneg (by omega)]
  have E3 := Lib.hid e3
  clear h e3
  go_enter Tryz.func196, Tryz.ntmps196
  go_wp2
  refine wp_region_ext (by kernel_rfl) (by kernel_rfl) ?_
  repeat (go_big_quiet_step ((go_at_call 49; with_reducible refine calls_ext_same (size_ext _ _))))
  refine wpQuiet_nil ?_
  rintro W ⟨⟨W2, hW⟩, rfl⟩
  clear x0 x1
  have y0 := (hW.cell (p := ⟨w.heap.size, 0, none⟩) (by simp)).trans (box2 w b u 69 0)
  have y1 := (hW.cell (p := ⟨w.heap.size, 1, none⟩) (by simp)).trans (box2 w b u 69 1)
  have HB := Lib.hid (hB.trans (hW.mono hB.size))
  clear hW hB
  go_wp2
  go_ret
  exact ⟨rfl, HB.out⟩
theorem ver_any (b u : Int) (w : World) : Calls Tryz.prog 155 #[.agg #[.int .i64 b, .int .i64 u]] w fun e w' => e = .returned (.int .u64 (ver b u)) ∧ Below w.heap.size w w' := by
  have z0 := box2 w b u 69 0
  have z1 := box2 w b u 69 1
  have hB := below_alloc w (.cells #[.int .i64 b, .int .i64 u] 69)
  cases h : hasP b u
  · have e : ver b u = 0 := by unfold ver; rw [h]; rfl
    rw [e]
    have ht := fun w => there_any b u w
    rw [h] at ht
    clear h e
    go_enter Tryz.func155, Tryz.ntmps155
    go_wp2_with (go_at_call 122; refine (ht _).mono ?_; rintro e w1 ⟨rfl, b1⟩)
    go_ret
    exact ⟨rfl, hB.trans (b1.mono hB.size)⟩
  · have e : ver b u = 64 + stripe b u := by unfold ver; rw [h]; rfl
    rw [e]
    have ht := fun w => there_any b u w
    rw [h] at ht
    have hs := fun w => stripe_in b u h w
    have hb : 0 ≤ stripe b u ∧ stripe b u < 64 := by unfold stripe; omega
    generalize stripe b u = s at *
    have e1 : IntKind.u64.wrap s = s := by rw [IntKind.wrap_u64]; omega
    have e2 : IntKind.u64.wrap (64 + s) = 64 + s := by rw [IntKind.wrap_u64]; omega
    have e3 : wrap64 (64 + s) = 64 + s := IntWalk.wrap64_in _ (by omega)
    clear h e
    go_enter Tryz.func155, Tryz.ntmps155
    go_wp2_with (first
      | (go_at_call 122; refine (ht _).mono ?_; rintro e w1 ⟨rfl, b1⟩; have y0 := (b1.cell (p := ⟨w.heap.size, 0, none⟩) (by simp)).trans z0; have y1 := (b1.cell (p := ⟨w.heap.size, 1, none⟩) (by simp)).trans z1; have B1 := hB.trans (b1.mono hB.size); clear z0 z1 b1)
      | (go_at_call 196; refine (hs _).mono ?_; rintro e w2 ⟨rfl, b2⟩))
    go_ret
    exact ⟨rfl, B1.trans (b2.mono B1.size)⟩
theorem two_pow_le (k : Nat) (h : k ≤ 12) : (2 : Int) ^ k ≤ 4096 ∧ 1 ≤ (2 : Int) ^ k := by
  have : k = 0 ∨ k = 1 ∨ k = 2 ∨ k = 3 ∨ k = 4 ∨ k = 5 ∨ k = 6 ∨ k = 7 ∨ k = 8 ∨ k = 9 ∨ k = 10 ∨ k = 11 ∨ k = 12 := by omega
  rcases this with rfl | rfl | rfl | rfl | rfl | rfl | rfl | rfl | rfl | rfl | rfl | rfl | rfl <;> decide
theorem rsize_any (b : Int) (w : World) : Calls Tryz.prog 51 #[.int .i64 b] w fun e w' => e = .returned (.int .i64 (tsize b)) ∧ w' = w := by
  by_cases h1 : b < 1
  · rw [tsize_out (.inl h1)]
    go_enter Tryz.func51, Tryz.ntmps51
    go_wp2
    all_goals (go_ret; exact ⟨rfl, rfl⟩)
  by_cases h2 : 12 < b
  · rw [tsize_out (.inr h2)]
    go_enter Tryz.func51, Tryz.ntmps51
    go_wp2
    all_goals (go_ret; exact ⟨rfl, rfl⟩)
  · rw [tsize_in ⟨by omega, by omega⟩]
    obtain ⟨n, rfl⟩ := Int.eq_ofNat_of_zero_le (show 0 ≤ b by omega)
    simp only [Int.toNat_natCast]
    have g1 : 1 ≤ (n : Int) := by omega
    have g2 : (n : Int) ≤ 12 := by omega
    clear h1 h2
    go_enter Tryz.func51, Tryz.ntmps51
    go_wp2
    go_loop [3, 4] (fun y i => ∃ k : Nat, k ≤ n ∧ i = .int .i64 k ∧ y = .int .i64 ((2 : Int) ^ k)) (fun _ i => n - (intOf i).toNat)
    case atStart => exact ⟨0, by omega, rfl, rfl⟩
    case round =>
      obtain ⟨k, hk, rfl, rfl⟩ := hrel
      by_cases hlt : k < n
      · have hp := two_pow_le k (by omega)
        have h3 : (k : Int) < n := by omega
        have e1 : wrap64 (2 * (2 : Int) ^ k) = 2 * (2 : Int) ^ k := IntWalk.wrap64_in _ (by omega)
        go_wp2
        go_round
        case rel => exact ⟨k + 1, by omega, by go_num, by rw [Int.pow_succ, Int.mul_comm]⟩
        case measure => simp [intOf]; omega
      · obtain rfl : k = n := by omega
        go_wp2
        go_ret
        exact ⟨rfl, rfl⟩
theorem rsize_ext (b : Int) {w : World} (st : ExtW w) : Calls Tryz.prog 51 #[.int .i64 b] st.val fun e w' => e = .returned (.int .i64 (tsize b)) ∧ st.val = w' :=
  (rsize_any b st.val).mono fun e w' ⟨he, hw⟩ => ⟨he, hw.symm⟩

theorem rthere_any (b u : Int) (w : World) : Calls Tryz.prog 134 #[.agg #[.int .i64 b, .int .i64 u]] w fun e w' => e = .returned (.bool (hasP b u)) ∧ Below w.heap.size w w' := by
  have x0 := fun st : ExtW (w.alloc (.cells #[.int .i64 b, .int .i64 u] 69)) => st.cell (box2 w b u 69 0)
  have x1 := fun st : ExtW (w.alloc (.cells #[.int .i64 b, .int .i64 u] 69)) => st.cell (box2 w b u 69 1)
  have hB := below_alloc w (.cells #[.int .i64 b, .int .i64 u] 69)
  unfold hasP
  cases h0 : decide (0 ≤ u)
  all_goals
    go_enter Tryz.func134, Tryz.ntmps134
    go_wp2
    refine wp_region_ext (by kernel_rfl) (by kernel_rfl) ?_
    repeat (go_big_quiet_step ((go_at_call 51; with_reducible refine calls_ext_same (rsize_ext _ _))))
    refine wpQuiet_nil ?_
    rintro W ⟨⟨W2, hW⟩, rfl⟩
    clear x0 x1
    go_wp2
    go_ret
    exact ⟨rfl, hB.trans (hW.mono hB.size)⟩
theorem rstripe_in (b u : Int) (h : hasP b u = true) (w : World) : Calls Tryz.prog 210 #[.agg #[.int .i64 b, .int .i64 u]] w fun e w' => e = .returned (.int .i64 (stripe b u)) ∧ Below w.heap.size w w' := by
  have hb := hasP_bits h
  have x0 := fun st : ExtW (w.alloc (.cells #[.int .i64 b, .int .i64 u] 69)) => st.cell (box2 w b u 69 0)
  have x1 := fun st : ExtW (w.alloc (.cells #[.int .i64 b, .int .i64 u] 69)) => st.cell (box2 w b u 69 1)
  have hB := below_alloc w (.cells #[.int .i64 b, .int .i64 u] 69)
  simp only [hasP, Bool.and_eq_true, decide_eq_true_eq] at h
  have h0 : decide (u < 0) = false := decide_eq_false (by omega)
  have h1 : decide (tsize b ≤ u) = false := decide_eq_false (by omega)
  have e1 : wrap64 (31 * b) = 31 * b := IntWalk.wrap64_in _ (by omega)
  have e2 : wrap64 (u + 31 * b) = u + 31 * b := IntWalk.wrap64_in _ (by omega)
  have e3 : (u + 31 * b).tmod 64 = stripe b u := by unfold stripe; rw [Int.tmod_eq_emod_of_nonneg (by omega)]
  have E3 := Lib.hid e3
  clear h e3
  go_enter Tryz.func210, Tryz.ntmps210
  go_wp2
  refine wp_region_ext (by kernel_rfl) (by kernel_rfl) ?_
  repeat (go_big_quiet_step ((go_at_call 51; with_reducible refine calls_ext_same (rsize_ext _ _))))
  refine wpQuiet_nil ?_
  rintro W ⟨⟨W2, hW⟩, rfl⟩
  clear x0 x1
  have y0 := (hW.cell (p := ⟨w.heap.size, 0, none⟩) (by simp)).trans (box2 w b u 69 0)
  have y1 := (hW.cell (p := ⟨w.heap.size, 1, none⟩) (by simp)).trans (box2 w b u 69 1)
  have HB := Lib.hid (hB.trans (hW.mono hB.size))
  clear hW hB
  go_wp2
  go_ret
  exact ⟨rfl, HB.out⟩
theorem rver_any (b u : Int) (w : World) : Calls Tryz.prog 163 #[.agg #[.int .i64 b, .int .i64 u]] w fun e w' => e = .returned (.int .u64 (ver b u)) ∧ Below w.heap.size w w' := by
  have z0 := box2 w b u 69 0
  have z1 := box2 w b u 69 1
  have hB := below_alloc w (.cells #[.int .i64 b, .int .i64 u] 69)
  cases h : hasP b u
  · have e : ver b u = 0 := by unfold ver; rw [h]; rfl
    rw [e]
    have ht := fun w => rthere_any b u w
    rw [h] at ht
    clear h e
    go_enter Tryz.func163, Tryz.ntmps163
    go_wp2_with (go_at_call 134; refine (ht _).mono ?_; rintro e w1 ⟨rfl, b1⟩)
    go_ret
    exact ⟨rfl, hB.trans (b1.mono hB.size)⟩
  · have e : ver b u = 64 + stripe b u := by unfold ver; rw [h]; rfl
    rw [e]
    have ht := fun w => rthere_any b u w
    rw [h] at ht
    have hs := fun w => rstripe_in b u h w
    have hb : 0 ≤ stripe b u ∧ stripe b u < 64 := by unfold stripe; omega
    generalize stripe b u = s at *
    have e1 : IntKind.u64.wrap s = s := by rw [IntKind.wrap_u64]; omega
    have e2 : IntKind.u64.wrap (64 + s) = 64 + s := by rw [IntKind.wrap_u64]; omega
    have e3 : wrap64 (64 + s) = 64 + s := IntWalk.wrap64_in _ (by omega)
    clear h e
    go_enter Tryz.func163, Tryz.ntmps163
    go_wp2_with (first
      | (go_at_call 134; refine (ht _).mono ?_; rintro e w1 ⟨rfl, b1⟩; have y0 := (b1.cell (p := ⟨w.heap.size, 0, none⟩) (by simp)).trans z0; have y1 := (b1.cell (p := ⟨w.heap.size, 1, none⟩) (by simp)).trans z1; have B1 := hB.trans (b1.mono hB.size); clear z0 z1 b1)
      | (go_at_call 210; refine (hs _).mono ?_; rintro e w2 ⟨rfl, b2⟩))
    go_ret
    exact ⟨rfl, B1.trans (b2.mono B1.size)⟩
end Go.Proofs.YtmakjfeepmiggaaGreat
