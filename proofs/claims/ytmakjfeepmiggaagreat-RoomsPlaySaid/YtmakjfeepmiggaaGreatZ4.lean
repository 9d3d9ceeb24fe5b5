import Derived.Test.YtmakjfeepmiggaaGreatB1
import Derived.WalkKit
namespace Go.Proofs.YtmakjfeepmiggaaGreat
open Go.RowKit
set_option linter.unusedVariables false
def tagsA (b u : Int) : Int := if hasP b u then 4096 + 8 * (tsize b + u) else 0
def hasS (b u s : Int) : Bool := hasP b u && decide (0 ≤ s) && decide (s < 4)
def itemA (b u s : Int) : Int := if hasS b u s then 4096 + 8 * (tsize b + u) + 1 + s else 0
theorem tsize_bd (b : Int) : 0 ≤ tsize b ∧ tsize b ≤ 4096 := by
  by_cases hb : b < 1 ∨ 12 < b
  · rw [tsize_out hb]; omega
  · have h1 := tsize_in (b := b) (by omega)
    rcases twelve (b := b) (by omega) with rfl | rfl | rfl | rfl | rfl | rfl | rfl | rfl | rfl | rfl | rfl | rfl <;> (rw [h1]; decide)
theorem u64_small (t : Int) (h : 0 ≤ t ∧ t < 1000000) : (Lit.int .u64 t).wf = true := by
  have hmin : IntKind.u64.min = 0 := rfl
  have hmax : IntKind.u64.max = 18446744073709551615 := rfl
  simp only [Lit.wf, Bool.and_eq_true, decide_eq_true_eq]; omega
theorem tagsA_bd (b u : Int) : 0 ≤ tagsA b u ∧ tagsA b u < 1000000 := by
  unfold tagsA
  split
  · rename_i h
    have := hasP_bits h; have := tsize_bd b; omega
  · omega
theorem itemA_bd (b u s : Int) : 0 ≤ itemA b u s ∧ itemA b u s < 1000000 := by
  unfold itemA hasS
  split
  · rename_i h
    simp only [Bool.and_eq_true, decide_eq_true_eq] at h
    have := hasP_bits h.1.1; have := tsize_bd b; omega
  · omega
theorem tagsA_wf (b u : Int) : (Lit.int .u64 (tagsA b u)).wf = true := u64_small _ (tagsA_bd b u)
theorem itemA_wf (b u s : Int) : (Lit.int .u64 (itemA b u s)).wf = true := u64_small _ (itemA_bd b u s)
theorem box3 (w : World) (b u s : Int) (T : TypeId) : ∀ o, (w.alloc (.cells #[.int .i64 b, .int .i64 u, .int .i64 s] T)).cell? ⟨w.heap.size, o, none⟩ = (#[.int .i64 b, .int .i64 u, .int .i64 s] : Array Value)[o]? := fun o => by
  have := heap_alloc_new w (.cells #[.int .i64 b, .int .i64 u, .int .i64 s] T)
  unfold World.cell?; simp only; rw [this]; rfl
theorem tags_any (b u : Int) (w : World) : Calls Tryz.prog 42 #[.agg #[.int .i64 b, .int .i64 u]] w fun e w' => e = .returned (.int .u64 (tagsA b u)) ∧ Below w.heap.size w w' := by
  have z0 := box2 w b u 69 0
  have z1 := box2 w b u 69 1
  have hB := below_alloc w (.cells #[.int .i64 b, .int .i64 u] 69)
  have ht := fun w => there_any b u w
  cases h : hasP b u
  · have e : tagsA b u = 0 := by unfold tagsA; rw [h]; rfl
    rw [e]
    rw [h] at ht
    clear h e
    go_enter Tryz.func42, Tryz.ntmps42
    go_wp2_with (go_at_call 122; refine (ht _).mono ?_; rintro e w1 ⟨rfl, b1⟩)
    go_ret
    exact ⟨rfl, hB.trans (b1.mono hB.size)⟩
  · have e : tagsA b u = 4096 + 8 * (tsize b + u) := by unfold tagsA; rw [h]; rfl
    rw [e]
    rw [h] at ht
    have hbd := hasP_bits h
    have htb := tsize_bd b
    have hsz := fun {w : World} (st : ExtW w) => size_ext b st
    generalize tsize b = t at *
    have e1 : wrap64 (t + u) = t + u := IntWalk.wrap64_in _ (by omega)
    have e2 : IntKind.u64.wrap (t + u) = t + u := by rw [IntKind.wrap_u64]; omega
    have e3 : IntKind.u64.wrap (8 * (t + u)) = 8 * (t + u) := by rw [IntKind.wrap_u64]; omega
    have e4 : IntKind.u64.wrap (4096 + 8 * (t + u)) = 4096 + 8 * (t + u) := by rw [IntKind.wrap_u64]; omega
    clear h e
    go_enter Tryz.func42, Tryz.ntmps42
    go_wp2_with (go_at_call 122; refine (ht _).mono ?_; rintro e w1 ⟨rfl, b1⟩; have y0 := (b1.cell (p := ⟨w.heap.size, 0, none⟩) (by simp)).trans z0; have y1 := (b1.cell (p := ⟨w.heap.size, 1, none⟩) (by simp)).trans z1; have B1 := hB.trans (b1.mono hB.size); clear z0 z1 b1 ht)
    have x0 := fun st : ExtW w1 => st.cell y0
    have x1 := fun st : ExtW w1 => st.cell y1
    refine wp_region_ext (by kernel_rfl) (by kernel_rfl) ?_
    repeat (go_big_quiet_step ((go_at_call 49; with_reducible refine calls_ext_same (hsz _))))
    refine wpQuiet_nil ?_
    rintro W ⟨⟨W2, hW⟩, rfl⟩
    clear x0 x1 y0 y1
    go_wp2
    go_ret
    exact ⟨rfl, B1.trans (hW.mono B1.size)⟩
theorem rtags_any (b u : Int) (w : World) : Calls Tryz.prog 56 #[.agg #[.int .i64 b, .int .i64 u]] w fun e w' => e = .returned (.int .u64 (tagsA b u)) ∧ Below w.heap.size w w' := by
  have z0 := box2 w b u 69 0
  have z1 := box2 w b u 69 1
  have hB := below_alloc w (.cells #[.int .i64 b, .int .i64 u] 69)
  have ht := fun w => rthere_any b u w
  cases h : hasP b u
  · have e : tagsA b u = 0 := by unfold tagsA; rw [h]; rfl
    rw [e]
    rw [h] at ht
    clear h e
    go_enter Tryz.func56, Tryz.ntmps56
    go_wp2_with (go_at_call 134; refine (ht _).mono ?_; rintro e w1 ⟨rfl, b1⟩)
    go_ret
    exact ⟨rfl, hB.trans (b1.mono hB.size)⟩
  · have e : tagsA b u = 4096 + 8 * (tsize b + u) := by unfold tagsA; rw [h]; rfl
    rw [e]
    rw [h] at ht
    have hbd := hasP_bits h
    have htb := tsize_bd b
    have hsz := fun {w : World} (st : ExtW w) => rsize_ext b st
    generalize tsize b = t at *
    have e1 : wrap64 (8 * t) = 8 * t := IntWalk.wrap64_in _ (by omega)
    have e2 : wrap64 (4096 + 8 * t) = 4096 + 8 * t := IntWalk.wrap64_in _ (by omega)
    have e3 : wrap64 (8 * u) = 8 * u := IntWalk.wrap64_in _ (by omega)
    have e4 : wrap64 (4096 + 8 * t + 8 * u) = 4096 + 8 * (t + u) := by rw [IntWalk.wrap64_in _ (by omega)]; omega
    have e5 : IntKind.u64.wrap (4096 + 8 * (t + u)) = 4096 + 8 * (t + u) := by rw [IntKind.wrap_u64]; omega
    clear h e
    go_enter Tryz.func56, Tryz.ntmps56
    go_wp2_with (go_at_call 134; refine (ht _).mono ?_; rintro e w1 ⟨rfl, b1⟩; have y0 := (b1.cell (p := ⟨w.heap.size, 0, none⟩) (by simp)).trans z0; have y1 := (b1.cell (p := ⟨w.heap.size, 1, none⟩) (by simp)).trans z1; have B1 := hB.trans (b1.mono hB.size); clear z0 z1 b1 ht)
    have x0 := fun st : ExtW w1 => st.cell y0
    have x1 := fun st : ExtW w1 => st.cell y1
    refine wp_region_ext (by kernel_rfl) (by kernel_rfl) ?_
    repeat (go_big_quiet_step ((go_at_call 51; with_reducible refine calls_ext_same (hsz _))))
    refine wpQuiet_nil ?_
    rintro W ⟨⟨W2, hW⟩, rfl⟩
    clear x0 x1 y0 y1
    go_wp2
    go_ret
    exact ⟨ret_u64 (by omega), B1.trans (hW.mono B1.size)⟩
theorem item_any (b u s : Int) (hs : (Lit.int .i64 s).wf = true) (w : World) : Calls Tryz.prog 192 #[.agg #[.int .i64 b, .int .i64 u, .int .i64 s]] w fun e w' => e = .returned (.int .u64 (itemA b u s)) ∧ Below w.heap.size w w' := by
  have z0 := box3 w b u s 71 0
  have z1 := box3 w b u s 71 1
  have z2 := box3 w b u s 71 2
  have hB := below_alloc w (.cells #[.int .i64 b, .int .i64 u, .int .i64 s] 71)
  have ht := fun w => there_any b u w
  cases h : hasS b u s
  · have e : itemA b u s = 0 := by unfold itemA; rw [h]; rfl
    rw [e]
    cases hp : hasP b u
    · rw [hp] at ht
      clear h e hp
      go_enter Tryz.func192, Tryz.ntmps192
      go_wp2_with (go_at_call 122; refine (ht _).mono ?_; rintro e w1 ⟨rfl, b1⟩)
      go_ret
      exact ⟨rfl, hB.trans (b1.mono hB.size)⟩
    · rw [hp] at ht
      have hor : s < 0 ∨ 4 ≤ s := by
        unfold hasS at h; rw [hp] at h; simp only [Bool.true_and, Bool.and_eq_false_iff, decide_eq_false_iff_not] at h; omega
      clear h e hp
      rcases hor with hs0 | hs0
      · go_enter Tryz.func192, Tryz.ntmps192
        go_wp2_with (go_at_call 122; refine (ht _).mono ?_; rintro e w1 ⟨rfl, b1⟩; have y2 := (b1.cell (p := ⟨w.heap.size, 2, none⟩) (by simp)).trans z2)
        go_ret
        exact ⟨rfl, hB.trans (b1.mono hB.size)⟩
      · have hs1 : 0 ≤ s := by omega
        have hs2 : 3 < s := by omega
        go_enter Tryz.func192, Tryz.ntmps192
        go_wp2_with (go_at_call 122; refine (ht _).mono ?_; rintro e w1 ⟨rfl, b1⟩; have y2 := (b1.cell (p := ⟨w.heap.size, 2, none⟩) (by simp)).trans z2)
        go_ret
        exact ⟨rfl, hB.trans (b1.mono hB.size)⟩
  · have e : itemA b u s = 4096 + 8 * (tsize b + u) + 1 + s := by unfold itemA; rw [h]; rfl
    simp only [hasS, Bool.and_eq_true, decide_eq_true_eq] at h
    obtain ⟨⟨hp, hs0⟩, hs4⟩ := h
    have htg : tagsA b u = 4096 + 8 * (tsize b + u) := by unfold tagsA; rw [hp]; rfl
    rw [e, ← htg]
    rw [hp] at ht
    have hbd := tagsA_bd b u
    have htag := fun {w : World} (st : ExtW w) => tags_any b u st.val
    generalize tagsA b u = t at *
    have hs3 : s ≤ 3 := by omega
    have e1 : IntKind.u64.wrap (t + 1) = t + 1 := by rw [IntKind.wrap_u64]; omega
    have e2 : IntKind.u64.wrap s = s := by rw [IntKind.wrap_u64]; omega
    have e3 : IntKind.u64.wrap (t + 1 + s) = t + 1 + s := by rw [IntKind.wrap_u64]; omega
    clear e htg hp
    go_enter Tryz.func192, Tryz.ntmps192
    go_wp2_with (go_at_call 122; refine (ht _).mono ?_; rintro e w1 ⟨rfl, b1⟩; have y0 := (b1.cell (p := ⟨w.heap.size, 0, none⟩) (by simp)).trans z0; have y1 := (b1.cell (p := ⟨w.heap.size, 1, none⟩) (by simp)).trans z1; have y2 := (b1.cell (p := ⟨w.heap.size, 2, none⟩) (by simp)).trans z2; have B1 := hB.trans (b1.mono hB.size); clear z0 z1 z2 b1 ht)
    have x0 := fun st : ExtW w1 => st.cell y0
    have x1 := fun st : ExtW w1 => st.cell y1
    have x2 := fun st : ExtW w1 => st.cell y2
    refine wp_region_ext (by kernel_rfl) (by kernel_rfl) ?_
    repeat (go_big_quiet_step ((go_at_call 42; with_reducible refine calls_ext (htag _))))
    refine wpQuiet_nil ?_
    rintro W ⟨⟨W2, hW⟩, rfl⟩
    clear x0 x1 x2 y0 y1 y2
    go_wp2
    go_ret
    exact ⟨ret_u64 (by omega), B1.trans (hW.mono B1.size)⟩
theorem ritem_any (b u s : Int) (hs : (Lit.int .i64 s).wf = true) (w : World) : Calls Tryz.prog 89 #[.agg #[.int .i64 b, .int .i64 u, .int .i64 s]] w fun e w' => e = .returned (.int .u64 (itemA b u s)) ∧ Below w.heap.size w w' := by
  have z0 := box3 w b u s 71 0
  have z1 := box3 w b u s 71 1
  have z2 := box3 w b u s 71 2
  have hB := below_alloc w (.cells #[.int .i64 b, .int .i64 u, .int .i64 s] 71)
  have ht := fun w => rthere_any b u w
  cases h : hasS b u s
  · have e : itemA b u s = 0 := by unfold itemA; rw [h]; rfl
    rw [e]
    cases hp : hasP b u
    · rw [hp] at ht
      clear h e hp
      go_enter Tryz.func89, Tryz.ntmps89
      go_wp2_with (go_at_call 134; refine (ht _).mono ?_; rintro e w1 ⟨rfl, b1⟩)
      go_ret
      exact ⟨rfl, hB.trans (b1.mono hB.size)⟩
    · rw [hp] at ht
      have hor : s < 0 ∨ 4 ≤ s := by
        unfold hasS at h; rw [hp] at h; simp only [Bool.true_and, Bool.and_eq_false_iff, decide_eq_false_iff_not] at h; omega
      clear h e hp
      rcases hor with hs0 | hs0
      · go_enter Tryz.func89, Tryz.ntmps89
        go_wp2_with (go_at_call 134; refine (ht _).mono ?_; rintro e w1 ⟨rfl, b1⟩; have y2 := (b1.cell (p := ⟨w.heap.size, 2, none⟩) (by simp)).trans z2)
        go_ret
        exact ⟨rfl, hB.trans (b1.mono hB.size)⟩
      · have hs1 : 0 ≤ s := by omega
        have hs2 : 3 < s := by omega
        go_enter Tryz.func89, Tryz.ntmps89
        go_wp2_with (go_at_call 134; refine (ht _).mono ?_; rintro e w1 ⟨rfl, b1⟩; have y2 := (b1.cell (p := ⟨w.heap.size, 2, none⟩) (by simp)).trans z2)
        go_ret
        exact ⟨rfl, hB.trans (b1.mono hB.size)⟩
  · have e : itemA b u s = 4096 + 8 * (tsize b + u) + 1 + s := by unfold itemA; rw [h]; rfl
    simp only [hasS, Bool.and_eq_true, decide_eq_true_eq] at h
    obtain ⟨⟨hp, hs0⟩, hs4⟩ := h
    have htg : tagsA b u = 4096 + 8 * (tsize b + u) := by unfold tagsA; rw [hp]; rfl
    rw [e, ← htg]
    rw [hp] at ht
    have hbd := tagsA_bd b u
    have htag := fun {w : World} (st : ExtW w) => rtags_any b u st.val
    generalize tagsA b u = t at *
    have hs3 : s ≤ 3 := by omega
    have e1 : wrap64 (1 + s) = 1 + s := IntWalk.wrap64_in _ (by omega)
    have e2 : IntKind.u64.wrap (1 + s) = 1 + s := by rw [IntKind.wrap_u64]; omega
    have e3 : IntKind.u64.wrap (t + (1 + s)) = t + (1 + s) := by rw [IntKind.wrap_u64]; omega
    clear e htg hp
    go_enter Tryz.func89, Tryz.ntmps89
    go_wp2_with (go_at_call 134; refine (ht _).mono ?_; rintro e w1 ⟨rfl, b1⟩; have y0 := (b1.cell (p := ⟨w.heap.size, 0, none⟩) (by simp)).trans z0; have y1 := (b1.cell (p := ⟨w.heap.size, 1, none⟩) (by simp)).trans z1; have y2 := (b1.cell (p := ⟨w.heap.size, 2, none⟩) (by simp)).trans z2; have B1 := hB.trans (b1.mono hB.size); clear z0 z1 z2 b1 ht)
    have x0 := fun st : ExtW w1 => st.cell y0
    have x1 := fun st : ExtW w1 => st.cell y1
    have x2 := fun st : ExtW w1 => st.cell y2
    refine wp_region_ext (by kernel_rfl) (by kernel_rfl) ?_
    repeat (go_big_quiet_step ((go_at_call 56; with_reducible refine calls_ext (htag _))))
    refine wpQuiet_nil ?_
    rintro W ⟨⟨W2, hW⟩, rfl⟩
    clear x0 x1 x2 y0 y1 y2
    go_wp2
    go_ret
    exact ⟨ret_u64 (by omega), B1.trans (hW.mono B1.size)⟩
end Go.Proofs.YtmakjfeepmiggaaGreat
namespace Go.Proofs.YtmakjfeepmiggaaGreat.TagPure
open Go.RowKit
def tg (x : Int) (i : Nat) : Int := x / 256 ^ i % 256
def put (x : Int) (i : Nat) (t : Int) : Int := x - tg x i * 256 ^ i + t * 256 ^ i
theorem nat_put (k x t : Nat) (hk : k ≤ 56) (hx : x < 2 ^ 64) (ht : t < 2 ^ 8) :
    (x &&& (2 ^ k * (2 ^ 8 * (2 ^ (56 - k) - 1) + 0) + (2 ^ k - 1))) ||| (t * 2 ^ k) = 2 ^ k * (2 ^ 8 * (x / 2 ^ (k + 8)) + t) + x % 2 ^ k := by
  have hlo : x % 2 ^ k < 2 ^ k := Nat.mod_lt _ (Nat.two_pow_pos k)
  have hlo' : 2 ^ k - 1 < 2 ^ k := by have := Nat.two_pow_pos k; omega
  apply Nat.eq_of_testBit_eq
  intro j
  rw [Nat.testBit_or, Nat.testBit_and, Nat.testBit_mul_two_pow, Nat.testBit_two_pow_mul_add _ hlo, Nat.testBit_two_pow_mul_add _ hlo',
    Nat.testBit_two_pow_mul_add _ ht, Nat.testBit_two_pow_mul_add _ (by decide : (0 : Nat) < 2 ^ 8)]
  by_cases h1 : j < k
  · have : ¬ k ≤ j := by omega
    simp [h1, this, Nat.testBit_mod_two_pow, Nat.testBit_two_pow_sub_one]
  · have h1' : k ≤ j := by omega
    by_cases h2 : j - k < 8
    · simp [h1, h1', h2]
    · have e : Nat.testBit t (j - k) = false := Nat.testBit_lt_two_pow (Nat.lt_of_lt_of_le ht (Nat.pow_le_pow_right (by decide) (by omega)))
      have e2 : Nat.testBit (x / 2 ^ (k + 8)) (j - k - 8) = Nat.testBit x j := by
        rw [Nat.testBit_div_two_pow]; congr 1; omega
      simp only [h1, h2, if_false, e, e2, Bool.and_false, Bool.or_false, Nat.testBit_two_pow_sub_one]
      by_cases h3 : j < 64
      · have : j - k - 8 < 56 - k := by omega
        simp [this]
      · have : Nat.testBit x j = false := Nat.testBit_lt_two_pow (Nat.lt_of_lt_of_le hx (Nat.pow_le_pow_right (by decide) (by omega)))
        simp [this]
theorem int_put (x t : Int) (u k C : Nat) (hu : u = 2 ^ k) (hk : k ≤ 56) (hC : C = 2 ^ k * (2 ^ 8 * (2 ^ (56 - k) - 1) + 0) + (2 ^ k - 1)) (hC' : (18446744073709551615 - 255 * u : Nat) = C) (hu' : u ≤ 72057594037927936)
    (h0 : 0 ≤ x) (h1 : x < 18446744073709551616) (t0 : 0 ≤ t) (t1 : t ≤ 255) :
    bits .or .u64 (bits .andNot .u64 x (255 * (u : Int))) (t * (u : Int)) = x - x / (u : Int) % 256 * (u : Int) + t * (u : Int) := by
  obtain ⟨n, rfl⟩ := Int.eq_ofNat_of_zero_le h0
  obtain ⟨m, rfl⟩ := Int.eq_ofNat_of_zero_le t0
  have hm : m * u ≤ 255 * 72057594037927936 := Nat.mul_le_mul (by omega) hu'
  rw [u64_andNot _ _ (by omega) (by omega) (by omega) (by omega)]
  have e1 : (255 * (u : Int)).toNat = 255 * u := by omega
  have e2 : ((m : Int) * (u : Int)) = ((m * u : Nat) : Int) := by simp
  rw [e1, e2, hC']
  simp only [Int.toNat_natCast]
  have hb : n &&& C < 18446744073709551616 := Nat.lt_of_le_of_lt Nat.and_le_left (by omega)
  rw [u64_or_nat _ _ hb (by omega), hC, hu, nat_put k n m hk (by omega) (by omega)]
  have hpos : 0 < 2 ^ k := Nat.two_pow_pos k
  have a := Nat.div_add_mod n (2 ^ k)
  have b := Nat.div_add_mod (n / 2 ^ k) 256
  have c : n / 2 ^ (k + 8) = n / 2 ^ k / 256 := by rw [Nat.pow_add, Nat.div_div_eq_div_mul]
  rw [c, show (2 : Nat) ^ 8 = 256 from rfl]
  generalize 2 ^ k = P at *
  generalize hq : n / P = q at *
  generalize hr : n % P = r at *
  generalize hs : q / 256 = s at *
  generalize hv : q % 256 = v at *
  have d : ((n : Int) / (P : Int)) % 256 = (v : Int) := by
    rw [← Int.natCast_ediv, hq]; omega
  rw [d]
  have f : (n : Int) = (P : Int) * (256 * (s : Int) + (v : Int)) + (r : Int) := by
    have a' := a; rw [← b] at a'; rw [← a', Int.natCast_add, Int.natCast_mul, Int.natCast_add, Int.natCast_mul]; rfl
  rw [f]
  rw [Int.natCast_add, Int.natCast_mul, Int.natCast_add, Int.natCast_mul, show ((256 : Nat) : Int) = 256 from rfl]
  rw [Int.mul_add, Int.mul_add, Int.mul_comm (v : Int) (P : Int), Int.natCast_mul m P, Int.mul_comm (m : Int) (P : Int)]
  omega
theorem put0 (x t : Int) (h0 : 0 ≤ x) (h1 : x < 18446744073709551616) (t0 : 0 ≤ t) (t1 : t ≤ 255) :
    bits .or .u64 (bits .andNot .u64 x 255) t = put x 0 t := by
  have := int_put x t 1 0 18446744073709551360 rfl (by decide) (by decide) (by decide) (by decide) h0 h1 t0 t1
  simpa [put, tg] using this
theorem put1 (x t : Int) (h0 : 0 ≤ x) (h1 : x < 18446744073709551616) (t0 : 0 ≤ t) (t1 : t ≤ 255) :
    bits .or .u64 (bits .andNot .u64 x 65280) (t * 256) = put x 1 t := by
  have := int_put x t 256 8 18446744073709486335 rfl (by decide) (by decide) (by decide) (by decide) h0 h1 t0 t1
  simpa [put, tg] using this
theorem put2 (x t : Int) (h0 : 0 ≤ x) (h1 : x < 18446744073709551616) (t0 : 0 ≤ t) (t1 : t ≤ 255) :
    bits .or .u64 (bits .andNot .u64 x 16711680) (t * 65536) = put x 2 t := by
  have := int_put x t 65536 16 18446744073692839935 rfl (by decide) (by decide) (by decide) (by decide) h0 h1 t0 t1
  simpa [put, tg] using this
theorem put3 (x t : Int) (h0 : 0 ≤ x) (h1 : x < 18446744073709551616) (t0 : 0 ≤ t) (t1 : t ≤ 255) :
    bits .or .u64 (bits .andNot .u64 x 4278190080) (t * 16777216) = put x 3 t := by
  have := int_put x t 16777216 24 18446744069431361535 rfl (by decide) (by decide) (by decide) (by decide) h0 h1 t0 t1
  simpa [put, tg] using this
theorem and255 (x : Int) (h0 : 0 ≤ x) (h1 : x < 18446744073709551616) : bits .and .u64 x 255 = x % 256 := by
  obtain ⟨n, rfl⟩ := Int.eq_ofNat_of_zero_le h0
  rw [u64_and _ _ (by omega) h1 (by omega) (by omega)]
  simp only [Int.toNat_natCast, show (255 : Int).toNat = 255 from rfl, nat_mask8]
  omega
def tagOf (x s : Int) : Int := if 0 ≤ s ∧ s < 4 then tg x s.toNat else 0
def withOf (x s t : Int) : Int := if (0 ≤ s ∧ s < 4) ∧ 0 ≤ t ∧ t ≤ 255 then put x s.toNat t else x
end Go.Proofs.YtmakjfeepmiggaaGreat.TagPure
namespace Go.Proofs.YtmakjfeepmiggaaGreat
open Go.RowKit TagPure
set_option linter.unusedVariables false
theorem tg_bd (x : Int) (i : Nat) : 0 ≤ tg x i ∧ tg x i ≤ 255 := by unfold tg; omega
theorem rtag_in (x : Int) (n : Nat) (w : World) (h0 : 0 ≤ x) (h1 : x < 18446744073709551616) (hn : n < 4) :
    Calls Tryz.prog 60 #[.int .u64 x, .int .i64 n] w fun e w' => e = .returned (.int .i64 (tg x n)) ∧ w = w' := by
  go_enter Tryz.func60, Tryz.ntmps60
  go_wp2
  go_loop [0, 5] (fun y i => ∃ (k : Nat) (d : Int), k ≤ n ∧ i = .int .i64 k ∧ y = .int .u64 d ∧ 0 ≤ d ∧ d ≤ x ∧ d = x / 256 ^ k) (fun _ i => n - (intOf i).toNat)
  case atStart => exact ⟨0, x, by omega, rfl, rfl, h0, Int.le_refl _, by simp⟩
  case round =>
    obtain ⟨k, d, hk, rfl, rfl, hd0, hd1, hd⟩ := hrel
    have HD := Lib.hid hd
    clear hd
    by_cases hlt : k < n
    · go_wp2
      go_round
      case rel => exact ⟨k + 1, d / 256, by omega, by go_num, rfl, by omega, by omega, by rw [HD.out, Int.pow_succ, Int.ediv_ediv_of_nonneg (by exact Int.le_of_lt (Int.pow_pos (by decide)))]⟩
      case measure => simp [intOf]; omega
    · obtain rfl : k = n := by omega
      go_wp2
      go_ret
      exact ⟨ret_i64 (by rw [HD.out]; rfl), rfl⟩
theorem rtag_out (x s : Int) (w : World) (h : s < 0 ∨ 4 ≤ s) :
    Calls Tryz.prog 60 #[.int .u64 x, .int .i64 s] w fun e w' => e = .returned (.int .i64 0) ∧ w = w' := by
  by_cases hs : s < 0
  · go_enter Tryz.func60, Tryz.ntmps60
    go_wp2
    go_ret
    exact ⟨rfl, rfl⟩
  · have hs' : 0 ≤ s := by omega
    have hs2 : 3 < s := by omega
    go_enter Tryz.func60, Tryz.ntmps60
    go_wp2
    go_ret
    exact ⟨rfl, rfl⟩
theorem rtag_any (x s : Int) (w : World) (h0 : 0 ≤ x) (h1 : x < 18446744073709551616) :
    Calls Tryz.prog 60 #[.int .u64 x, .int .i64 s] w fun e w' => e = .returned (.int .i64 (tagOf x s)) ∧ w = w' := by
  by_cases h : 0 ≤ s ∧ s < 4
  · unfold tagOf; rw [if_pos h]
    have := rtag_in x s.toNat w h0 h1 (by omega)
    rwa [Int.toNat_of_nonneg h.1] at this
  · unfold tagOf; rw [if_neg h]; exact rtag_out x s w (by omega)
theorem rwith_out (x s t : Int) (w : World) (h : (s < 0 ∨ 4 ≤ s) ∨ t < 0 ∨ 255 < t) :
    Calls Tryz.prog 131 #[.int .u64 x, .int .i64 s, .int .i64 t] w fun e w' => e = .returned (.int .u64 x) ∧ w = w' := by
  by_cases hs : s < 0
  · go_enter Tryz.func131, Tryz.ntmps131
    go_wp2
    go_ret
    exact ⟨rfl, rfl⟩
  · have hs' : 0 ≤ s := by omega
    by_cases hs2 : 3 < s
    · go_enter Tryz.func131, Tryz.ntmps131
      go_wp2
      go_ret
      exact ⟨rfl, rfl⟩
    · have hs3 : s ≤ 3 := by omega
      by_cases ht : t < 0
      · go_enter Tryz.func131, Tryz.ntmps131
        go_wp2
        go_ret
        exact ⟨rfl, rfl⟩
      · have ht' : 0 ≤ t := by omega
        have ht2 : 255 < t := by omega
        go_enter Tryz.func131, Tryz.ntmps131
        go_wp2
        go_ret
        exact ⟨rfl, rfl⟩
theorem put_bd (x t : Int) (n : Nat) (h0 : 0 ≤ x) (h1 : x < 18446744073709551616) (hn : n < 4) (t0 : 0 ≤ t) (t1 : t ≤ 255) :
    0 ≤ x - tg x n * 256 ^ n ∧ x - tg x n * 256 ^ n + t * 256 ^ n < 18446744073709551616 := by
  match n, hn with
  | 0, _ => simp only [tg]; omega
  | 1, _ => simp only [tg]; omega
  | 2, _ => simp only [tg]; omega
  | 3, _ => simp only [tg]; omega
theorem put_u64 (x t : Int) (n : Nat) (h0 : 0 ≤ x) (h1 : x < 18446744073709551616) (hn : n < 4) (t0 : 0 ≤ t) (t1 : t ≤ 255) : 0 ≤ put x n t ∧ put x n t < 18446744073709551616 := by
  have := put_bd x t n h0 h1 hn t0 t1
  have e : 0 ≤ t * 256 ^ n := Int.mul_nonneg t0 (Int.le_of_lt (Int.pow_pos (by decide)))
  unfold put; omega
set_option maxHeartbeats 800000 in
theorem rwith_in (x t : Int) (n : Nat) (w : World) (h0 : 0 ≤ x) (h1 : x < 18446744073709551616) (hn : n < 4) (t0 : 0 ≤ t) (t1 : t ≤ 255) :
    Calls Tryz.prog 131 #[.int .u64 x, .int .i64 n, .int .i64 t] w fun e w' => e = .returned (.int .u64 (put x n t)) ∧ w = w' := by
  have hb := put_bd x t n h0 h1 hn t0 t1
  have ht := tg_bd x n
  match n, hn with
  | 0, hn =>
    simp only [Int.pow_zero, Int.mul_one] at hb
    go_enter Tryz.func131, Tryz.ntmps131
    go_wp2_with fail
    refine wp_loop_rounds 1 ?_
    rw [rounds_succ]
    go_wp2_with (go_at_call 60; refine (rtag_in x 0 _ h0 h1 hn).mono ?_; rintro e w' ⟨rfl, rfl⟩)
    go_ret
    exact ⟨ret_u64 (by simp [put]), rfl⟩
  | 1, hn =>
    have e : (256 : Int) ^ 1 = 256 := rfl
    rw [e] at hb
    clear e
    go_enter Tryz.func131, Tryz.ntmps131
    go_wp2_with fail
    refine wp_loop_rounds 2 ?_
    rw [rounds_succ]
    go_wp2_with fail
    rw [rounds_succ]
    go_wp2_with (go_at_call 60; refine (rtag_in x 1 _ h0 h1 hn).mono ?_; rintro e w' ⟨rfl, rfl⟩)
    go_ret
    exact ⟨ret_u64 rfl, rfl⟩
  | 2, hn =>
    have e : (256 : Int) ^ 2 = 65536 := rfl
    rw [e] at hb
    clear e
    go_enter Tryz.func131, Tryz.ntmps131
    go_wp2_with fail
    refine wp_loop_rounds 3 ?_
    rw [rounds_succ]
    go_wp2_with fail
    rw [rounds_succ]
    go_wp2_with fail
    rw [rounds_succ]
    go_wp2_with (go_at_call 60; refine (rtag_in x 2 _ h0 h1 hn).mono ?_; rintro e w' ⟨rfl, rfl⟩)
    go_ret
    exact ⟨ret_u64 rfl, rfl⟩
  | 3, hn =>
    have e : (256 : Int) ^ 3 = 16777216 := rfl
    rw [e] at hb
    clear e
    go_enter Tryz.func131, Tryz.ntmps131
    go_wp2_with fail
    refine wp_loop_rounds 4 ?_
    rw [rounds_succ]
    go_wp2_with fail
    rw [rounds_succ]
    go_wp2_with fail
    rw [rounds_succ]
    go_wp2_with fail
    rw [rounds_succ]
    go_wp2_with (go_at_call 60; refine (rtag_in x 3 _ h0 h1 hn).mono ?_; rintro e w' ⟨rfl, rfl⟩)
    go_ret
    exact ⟨ret_u64 rfl, rfl⟩
theorem rwith_any (x s t : Int) (w : World) (h0 : 0 ≤ x) (h1 : x < 18446744073709551616) :
    Calls Tryz.prog 131 #[.int .u64 x, .int .i64 s, .int .i64 t] w fun e w' => e = .returned (.int .u64 (withOf x s t)) ∧ w = w' := by
  by_cases h : (0 ≤ s ∧ s < 4) ∧ 0 ≤ t ∧ t ≤ 255
  · unfold withOf; rw [if_pos h]
    have := rwith_in x t s.toNat w h0 h1 (by omega) h.2.1 h.2.2
    rwa [Int.toNat_of_nonneg h.1.1] at this
  · unfold withOf; rw [if_neg h]; exact rwith_out x s t w (by omega)
end Go.Proofs.YtmakjfeepmiggaaGreat