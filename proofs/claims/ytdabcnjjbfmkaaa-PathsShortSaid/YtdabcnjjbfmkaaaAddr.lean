/-
  Addresses of a bucket's tags, and of a slot's item; the document's, too.
-/
import Derived.Test.YtdabcnjjbfmkaaaVer
namespace Go.Proofs.Ytdabcnjjbfmkaaa
open Go.RowKit
set_option linter.unusedVariables false

def tagsA (b u : Int) : Int := if hasP b u then 4096 + 8 * (tsize b + u) else 0
def hasS (b u s : Int) : Bool := hasP b u && decide (0 ≤ s) && decide (s < 4)
def itemA (b u s : Int) : Int := if hasS b u s then 4096 + 8 * (tsize b + u) + 1 + s else 0
theorem tsize_bd (b : Int) : 0 ≤ tsize b ∧ tsize b ≤ 4096 := by
  by_cases hb : b < 1 ∨ 12 < b
  · rw [tsize_out hb]; omega
  · have h1 := tsize_in (b := b) (by omega)
    rcases twelve (b := b) (by omega) with rfl | rfl | rfl | rfl | rfl | rfl | rfl | rfl | rfl | rfl | rfl | rfl <;> (rw [h1]; decide)
theorem u64_small (t : Int) (h : 0 ≤ t ∧ t < 1000000) : (Lit.int .u64 t).wf = true := by
  have hmin : IntKind.u64.min = 0 := rfl
  have hmax : IntKind.u64.max = 18446744073709551615 := rfl
  simp only [Lit.wf, Bool.and_eq_true, decide_eq_true_eq]; omega
theorem tagsA_bd (b u : Int) : 0 ≤ tagsA b u ∧ tagsA b u < 1000000 := by
  unfold tagsA
  split
  · rename_i h
    have := hasP_bits h; have := tsize_bd b; omega
  · omega
theorem itemA_bd (b u s : Int) : 0 ≤ itemA b u s ∧ itemA b u s < 1000000 := by
  unfold itemA hasS
  split
  · rename_i h
    simp only [Bool.and_eq_true, decide_eq_true_eq] at h
    have := hasP_bits h.1.1; have := tsize_bd b; omega
  · omega
theorem tagsA_wf (b u : Int) : (Lit.int .u64 (tagsA b u)).wf = true := u64_small _ (tagsA_bd b u)
theorem itemA_wf (b u s : Int) : (Lit.int .u64 (itemA b u s)).wf = true := u64_small _ (itemA_bd b u s)
theorem box3 (w : World) (b u s : Int) (T : TypeId) : ∀ o, (w.alloc (.cells #[.int .i64 b, .int .i64 u, .int .i64 s] T)).cell? ⟨w.heap.size, o, none⟩ = (#[.int .i64 b, .int .i64 u, .int .i64 s] : Array Value)[o]? := fun o => by
  have := heap_alloc_new w (.cells #[.int .i64 b, .int .i64 u, .int .i64 s] T)
  unfold World.cell?; simp only; rw [this]; rfl

theorem tags_any (b u : Int) (w : World) : Calls Try.prog 74 #[.agg #[.int .i64 b, .int .i64 u]] w fun e w' => e = .returned (.int .u64 (tagsA b u)) ∧ Below w.heap.size w w' := by
  have z0 := box2 w b u 44 0
  have z1 := box2 w b u 44 1
  have hB := below_alloc w (.cells #[.int .i64 b, .int .i64 u] 44)
  have ht := fun w => there_any b u w
  cases h : hasP b u
  · have e : tagsA b u = 0 := by unfold tagsA; rw [h]; rfl
    rw [e]
    rw [h] at ht
    clear h e
    go_enter Try.func74, Try.ntmps74
    go_wp2_with (go_at_call 69; refine (ht _).mono ?_; rintro e w1 ⟨rfl, b1⟩)
    go_ret
    exact ⟨rfl, hB.trans (b1.mono hB.size)⟩
  · have e : tagsA b u = 4096 + 8 * (tsize b + u) := by unfold tagsA; rw [h]; rfl
    rw [e]
    rw [h] at ht
    have hbd := hasP_bits h
    have htb := tsize_bd b
    have hsz := fun {w : World} (st : ExtW w) => size_ext b st
    generalize tsize b = t at *
    have e1 : wrap64 (t + u) = t + u := IntWalk.wrap64_in _ (by omega)
    have e2 : IntKind.u64.wrap (t + u) = t + u := by rw [IntKind.wrap_u64]; omega
    have e3 : IntKind.u64.wrap (8 * (t + u)) = 8 * (t + u) := by rw [IntKind.wrap_u64]; omega
    have e4 : IntKind.u64.wrap (4096 + 8 * (t + u)) = 4096 + 8 * (t + u) := by rw [IntKind.wrap_u64]; omega
    clear h e
    go_enter Try.func74, Try.ntmps74
    go_wp2_with (go_at_call 69; refine (ht _).mono ?_; rintro e w1 ⟨rfl, b1⟩; have y0 := (b1.cell (p := ⟨w.heap.size, 0, none⟩) (by simp)).trans z0; have y1 := (b1.cell (p := ⟨w.heap.size, 1, none⟩) (by simp)).trans z1; have B1 := hB.trans (b1.mono hB.size); clear z0 z1 b1 ht)
    have x0 := fun st : ExtW w1 => st.cell y0
    have x1 := fun st : ExtW w1 => st.cell y1
    refine wp_region_ext (by kernel_rfl) (by kernel_rfl) ?_
    repeat (go_big_quiet_step ((go_at_call 72; with_reducible refine calls_ext_same (hsz _))))
    refine wpQuiet_nil ?_
    rintro W ⟨⟨W2, hW⟩, rfl⟩
    clear x0 x1 y0 y1
    go_wp2
    go_ret
    exact ⟨rfl, B1.trans (hW.mono B1.size)⟩
theorem rtags_any (b u : Int) (w : World) : Calls Try.prog 97 #[.agg #[.int .i64 b, .int .i64 u]] w fun e w' => e = .returned (.int .u64 (tagsA b u)) ∧ Below w.heap.size w w' := by
  have z0 := box2 w b u 44 0
  have z1 := box2 w b u 44 1
  have hB := below_alloc w (.cells #[.int .i64 b, .int .i64 u] 44)
  have ht := fun w => rthere_any b u w
  cases h : hasP b u
  · have e : tagsA b u = 0 := by unfold tagsA; rw [h]; rfl
    rw [e]
    rw [h] at ht
    clear h e
    go_enter Try.func97, Try.ntmps97
    go_wp2_with (go_at_call 136; refine (ht _).mono ?_; rintro e w1 ⟨rfl, b1⟩)
    go_ret
    exact ⟨rfl, hB.trans (b1.mono hB.size)⟩
  · have e : tagsA b u = 4096 + 8 * (tsize b + u) := by unfold tagsA; rw [h]; rfl
    rw [e]
    rw [h] at ht
    have hbd := hasP_bits h
    have htb := tsize_bd b
    have hsz := fun {w : World} (st : ExtW w) => rsize_ext b st
    generalize tsize b = t at *
    have e1 : wrap64 (8 * t) = 8 * t := IntWalk.wrap64_in _ (by omega)
    have e2 : wrap64 (4096 + 8 * t) = 4096 + 8 * t := IntWalk.wrap64_in _ (by omega)
    have e3 : wrap64 (8 * u) = 8 * u := IntWalk.wrap64_in _ (by omega)
    have e4 : wrap64 (4096 + 8 * t + 8 * u) = 4096 + 8 * (t + u) := by rw [IntWalk.wrap64_in _ (by omega)]; omega
    have e5 : IntKind.u64.wrap (4096 + 8 * (t + u)) = 4096 + 8 * (t + u) := by rw [IntKind.wrap_u64]; omega
    clear h e
    go_enter Try.func97, Try.ntmps97
    go_wp2_with (go_at_call 136; refine (ht _).mono ?_; rintro e w1 ⟨rfl, b1⟩; have y0 := (b1.cell (p := ⟨w.heap.size, 0, none⟩) (by simp)).trans z0; have y1 := (b1.cell (p := ⟨w.heap.size, 1, none⟩) (by simp)).trans z1; have B1 := hB.trans (b1.mono hB.size); clear z0 z1 b1 ht)
    have x0 := fun st : ExtW w1 => st.cell y0
    have x1 := fun st : ExtW w1 => st.cell y1
    refine wp_region_ext (by kernel_rfl) (by kernel_rfl) ?_
    repeat (go_big_quiet_step ((go_at_call 137; with_reducible refine calls_ext_same (hsz _))))
    refine wpQuiet_nil ?_
    rintro W ⟨⟨W2, hW⟩, rfl⟩
    clear x0 x1 y0 y1
    go_wp2
    go_ret
    exact ⟨ret_u64 (by omega), B1.trans (hW.mono B1.size)⟩

theorem item_any (b u s : Int) (hs : (Lit.int .i64 s).wf = true) (w : World) : Calls Try.prog 183 #[.agg #[.int .i64 b, .int .i64 u, .int .i64 s]] w fun e w' => e = .returned (.int .u64 (itemA b u s)) ∧ Below w.heap.size w w' := by
  have z0 := box3 w b u s 46 0
  have z1 := box3 w b u s 46 1
  have z2 := box3 w b u s 46 2
  have hB := below_alloc w (.cells #[.int .i64 b, .int .i64 u, .int .i64 s] 46)
  have ht := fun w => there_any b u w
  cases h : hasS b u s
  · have e : itemA b u s = 0 := by unfold itemA; rw [h]; rfl
    rw [e]
    cases hp : hasP b u
    · rw [hp] at ht
      clear h e hp
      go_enter Try.func183, Try.ntmps183
      go_wp2_with (go_at_call 69; refine (ht _).mono ?_; rintro e w1 ⟨rfl, b1⟩)
      go_ret
      exact ⟨rfl, hB.trans (b1.mono hB.size)⟩
    · rw [hp] at ht
      have hor : s < 0 ∨ 4 ≤ s := by
        unfold hasS at h; rw [hp] at h; simp only [Bool.true_and, Bool.and_eq_false_iff, decide_eq_false_iff_not] at h; omega
      clear h e hp
      rcases hor with hs0 | hs0
      · go_enter Try.func183, Try.ntmps183
        go_wp2_with (go_at_call 69; refine (ht _).mono ?_; rintro e w1 ⟨rfl, b1⟩; have y2 := (b1.cell (p := ⟨w.heap.size, 2, none⟩) (by simp)).trans z2)
        go_ret
        exact ⟨rfl, hB.trans (b1.mono hB.size)⟩
      · have hs1 : 0 ≤ s := by omega
        have hs2 : 3 < s := by omega
        go_enter Try.func183, Try.ntmps183
        go_wp2_with (go_at_call 69; refine (ht _).mono ?_; rintro e w1 ⟨rfl, b1⟩; have y2 := (b1.cell (p := ⟨w.heap.size, 2, none⟩) (by simp)).trans z2)
        go_ret
        exact ⟨rfl, hB.trans (b1.mono hB.size)⟩
  · have e : itemA b u s = 4096 + 8 * (tsize b + u) + 1 + s := by unfold itemA; rw [h]; rfl
    simp only [hasS, Bool.and_eq_true, decide_eq_true_eq] at h
    obtain ⟨⟨hp, hs0⟩, hs4⟩ := h
    have htg : tagsA b u = 4096 + 8 * (tsize b + u) := by unfold tagsA; rw [hp]; rfl
    rw [e, ← htg]
    rw [hp] at ht
    have hbd := tagsA_bd b u
    have htag := fun {w : World} (st : ExtW w) => tags_any b u st.val
    generalize tagsA b u = t at *
    have hs3 : s ≤ 3 := by omega
    have e1 : IntKind.u64.wrap (t + 1) = t + 1 := by rw [IntKind.wrap_u64]; omega
    have e2 : IntKind.u64.wrap s = s := by rw [IntKind.wrap_u64]; omega
    have e3 : IntKind.u64.wrap (t + 1 + s) = t + 1 + s := by rw [IntKind.wrap_u64]; omega
    clear e htg hp
    go_enter Try.func183, Try.ntmps183
    go_wp2_with (go_at_call 69; refine (ht _).mono ?_; rintro e w1 ⟨rfl, b1⟩; have y0 := (b1.cell (p := ⟨w.heap.size, 0, none⟩) (by simp)).trans z0; have y1 := (b1.cell (p := ⟨w.heap.size, 1, none⟩) (by simp)).trans z1; have y2 := (b1.cell (p := ⟨w.heap.size, 2, none⟩) (by simp)).trans z2; have B1 := hB.trans (b1.mono hB.size); clear z0 z1 z2 b1 ht)
    have x0 := fun st : ExtW w1 => st.cell y0
    have x1 := fun st : ExtW w1 => st.cell y1
    have x2 := fun st : ExtW w1 => st.cell y2
    refine wp_region_ext (by kernel_rfl) (by kernel_rfl) ?_
    repeat (go_big_quiet_step ((go_at_call 74; with_reducible refine calls_ext (htag _))))
    refine wpQuiet_nil ?_
    rintro W ⟨⟨W2, hW⟩, rfl⟩
    clear x0 x1 x2 y0 y1 y2
    go_wp2
    go_ret
    exact ⟨ret_u64 (by omega), B1.trans (hW.mono B1.size)⟩

theorem ritem_any (b u s : Int) (hs : (Lit.int .i64 s).wf = true) (w : World) : Calls Try.prog 100 #[.agg #[.int .i64 b, .int .i64 u, .int .i64 s]] w fun e w' => e = .returned (.int .u64 (itemA b u s)) ∧ Below w.heap.size w w' := by
  have z0 := box3 w b u s 46 0
  have z1 := box3 w b u s 46 1
  have z2 := box3 w b u s 46 2
  have hB := below_alloc w (.cells #[.int .i64 b, .int .i64 u, .int .i64 s] 46)
  have ht := fun w => rthere_any b u w
  cases h : hasS b u s
  · have e : itemA b u s = 0 := by unfold itemA; rw [h]; rfl
    rw [e]
    cases hp : hasP b u
    · rw [hp] at ht
      clear h e hp
      go_enter Try.func100, Try.ntmps100
      go_wp2_with (go_at_call 136; refine (ht _).mono ?_; rintro e w1 ⟨rfl, b1⟩)
      go_ret
      exact ⟨rfl, hB.trans (b1.mono hB.size)⟩
    · rw [hp] at ht
      have hor : s < 0 ∨ 4 ≤ s := by
        unfold hasS at h; rw [hp] at h; simp only [Bool.true_and, Bool.and_eq_false_iff, decide_eq_false_iff_not] at h; omega
      clear h e hp
      rcases hor with hs0 | hs0
      · go_enter Try.func100, Try.ntmps100
        go_wp2_with (go_at_call 136; refine (ht _).mono ?_; rintro e w1 ⟨rfl, b1⟩; have y2 := (b1.cell (p := ⟨w.heap.size, 2, none⟩) (by simp)).trans z2)
        go_ret
        exact ⟨rfl, hB.trans (b1.mono hB.size)⟩
      · have hs1 : 0 ≤ s := by omega
        have hs2 : 3 < s := by omega
        go_enter Try.func100, Try.ntmps100
        go_wp2_with (go_at_call 136; refine (ht _).mono ?_; rintro e w1 ⟨rfl, b1⟩; have y2 := (b1.cell (p := ⟨w.heap.size, 2, none⟩) (by simp)).trans z2)
        go_ret
        exact ⟨rfl, hB.trans (b1.mono hB.size)⟩
  · have e : itemA b u s = 4096 + 8 * (tsize b + u) + 1 + s := by unfold itemA; rw [h]; rfl
    simp only [hasS, Bool.and_eq_true, decide_eq_true_eq] at h
    obtain ⟨⟨hp, hs0⟩, hs4⟩ := h
    have htg : tagsA b u = 4096 + 8 * (tsize b + u) := by unfold tagsA; rw [hp]; rfl
    rw [e, ← htg]
    rw [hp] at ht
    have hbd := tagsA_bd b u
    have htag := fun {w : World} (st : ExtW w) => rtags_any b u st.val
    generalize tagsA b u = t at *
    have hs3 : s ≤ 3 := by omega
    have e1 : wrap64 (1 + s) = 1 + s := IntWalk.wrap64_in _ (by omega)
    have e2 : IntKind.u64.wrap (1 + s) = 1 + s := by rw [IntKind.wrap_u64]; omega
    have e3 : IntKind.u64.wrap (t + (1 + s)) = t + (1 + s) := by rw [IntKind.wrap_u64]; omega
    clear e htg hp
    go_enter Try.func100, Try.ntmps100
    go_wp2_with (go_at_call 136; refine (ht _).mono ?_; rintro e w1 ⟨rfl, b1⟩; have y0 := (b1.cell (p := ⟨w.heap.size, 0, none⟩) (by simp)).trans z0; have y1 := (b1.cell (p := ⟨w.heap.size, 1, none⟩) (by simp)).trans z1; have y2 := (b1.cell (p := ⟨w.heap.size, 2, none⟩) (by simp)).trans z2; have B1 := hB.trans (b1.mono hB.size); clear z0 z1 z2 b1 ht)
    have x0 := fun st : ExtW w1 => st.cell y0
    have x1 := fun st : ExtW w1 => st.cell y1
    have x2 := fun st : ExtW w1 => st.cell y2
    refine wp_region_ext (by kernel_rfl) (by kernel_rfl) ?_
    repeat (go_big_quiet_step ((go_at_call 97; with_reducible refine calls_ext (htag _))))
    refine wpQuiet_nil ?_
    rintro W ⟨⟨W2, hW⟩, rfl⟩
    clear x0 x1 x2 y0 y1 y2
    go_wp2
    go_ret
    exact ⟨ret_u64 (by omega), B1.trans (hW.mono B1.size)⟩
end Go.Proofs.Ytdabcnjjbfmkaaa
