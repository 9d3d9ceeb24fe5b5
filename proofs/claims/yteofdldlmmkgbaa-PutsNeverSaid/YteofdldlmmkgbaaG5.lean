/-
  Texts of this prover, merged: WorldNew, World, Epoch, WorldDo, WorldLives, Mark.
-/
import Derived.Test.YteofdldlmmkgbaaG4
import Derived.Test.YteofdldlmmkgbaaG1
import Derived.Test.YteofdldlmmkgbaaG2
import Derived.Deep.RegionWith
/-
  New worlds.
-/
namespace Go.Proofs.Yteofdldlmmkgbaa
open Go.RowKit Go.Maps
set_option linter.unusedVariables false

theorem items_new (w : World) : Calls Try.prog 53 #[] w fun e w' => e = .returned (.pointer (some ⟨w.heap.size, 0, none⟩)) ∧ w' = w.alloc (.cells #[.slice none 0 0, .int .i64 0] 157) := by
  go_enter Try.func53, Try.ntmps53
  go_wp2
  go_ret
  exact ⟨rfl, rfl⟩
theorem notes_new (w : World) : Calls Try.prog 54 #[] w fun e w' => e = .returned (.pointer (some ⟨w.heap.size, 0, none⟩)) ∧ w' = w.alloc (.cells #[.slice none 0 0] 197) := by
  go_enter Try.func54, Try.ntmps54
  go_wp2
  go_ret
  exact ⟨rfl, rfl⟩

/-- What a world's block holds. -/
def worldV (cb ib nb : Nat) (c : Conf) (tk : List Value) (holder : Int) : List Value :=
  [.pointer (some ⟨cb, 0, none⟩), .pointer (some ⟨ib, 0, none⟩), .pointer (some ⟨nb, 0, none⟩)] ++ c.cells ++ tk ++ [.int .i64 holder]
def tk0 : List Value := List.replicate 64 (.int .u64 0)

set_option maxRecDepth 10000 in
set_option maxHeartbeats 2000000 in
theorem wnew_bad (c : Conf) (hc : c.ok = false) (w : World) : Calls Try.prog 8 #[.agg #[.int .i64 c.bits, .int .i64 c.budget, .int .i64 c.tries, .int .i64 c.quantum, .int .i64 c.way]] w fun e w' => e = .returned (.tuple #[.pointer none, .int .i64 1]) ∧ Below w.heap.size w w' := by
  go_enter Try.func8, Try.ntmps8
  go_wp2_with (go_at_call 11; refine (wmay_any c _).mono ?_; rw [hc]; rintro e w1 ⟨rfl, h1⟩)
  go_ret2
  exact ⟨rfl, ((Below.refl _ w).alloc (Nat.le_refl _) _).trans (h1.mono (by simp))⟩

theorem new_first {w0 : World} (w : World) (hB : Below w0.heap.size w0 w) (a v : Int) (ha : (Lit.int .u64 a).wf = true) (hv : (Lit.int .u64 v).wf = true) :
    Calls Try.prog 52 #[.slice (some ⟨w.heap.size, 0, none⟩) 1 1] (w.alloc (.cells #[.int .u64 a, .int .u64 v] 121)) fun e w' => ∃ b, e = .returned (.pointer (some ⟨b, 0, none⟩)) ∧ Own w0 w' b (CS.init [(a, v)]) ∧ Below w.heap.size w w' := by
  have hq := heap_alloc_new w (.cells #[.int .u64 a, .int .u64 v] 121)
  have hb1 : Below w.heap.size w (w.alloc (.cells #[.int .u64 a, .int .u64 v] 121)) := (Below.refl _ _).alloc (Nat.le_refl _) _
  refine (new_words (w.alloc (.cells #[.int .u64 a, .int .u64 v] 121)) w.heap.size 0 1 [(a, v)] (by simp) (by unfold maxLen; omega) (by unfold lim; simp) (fun k hk => ?_) (fun p hp => ?_)).mono fun e w' ⟨b, S, he, h1, h2⟩ => ⟨b, he, Own.new (hB.alloc hB.size _) h1 h2, hb1.trans (h2.mono hb1.size)⟩
  · have hk0 : k = 0 := by simpa using hk
    subst hk0
    have c : ∀ o, (w.alloc (.cells #[.int .u64 a, .int .u64 v] 121)).cell? ⟨w.heap.size, o, none⟩ = (#[.int .u64 a, .int .u64 v] : Array Value)[o]? := fun o => by
      unfold World.cell?
      simp only
      rw [hq]
      rfl
    exact ⟨c 0, c 1⟩
  · simp only [List.mem_singleton] at hp
    rw [hp]; exact ⟨ha, hv⟩

theorem box5 {w w' : World} {q T : Nat} {c0 c1 c2 c3 c4 : Value} (hq : w.heap[q]? = some (.cells #[c0, c1, c2, c3, c4] T (0, 0))) (h : Below w.heap.size w w') :
    w'.heap[q]? = some (.cells #[c0, c1, c2, c3, c4] T (0, 0)) ∧ w'.cell? ⟨q, 0, none⟩ = some c0 ∧ w'.cell? ⟨q, 1, none⟩ = some c1 ∧ w'.cell? ⟨q, 2, none⟩ = some c2 ∧ w'.cell? ⟨q, 3, none⟩ = some c3 ∧ w'.cell? ⟨q, 4, none⟩ = some c4 := by
  have h3 := (h.block q (Array.getElem?_eq_some_iff.1 hq).1).trans hq
  have c : ∀ o, w'.cell? ⟨q, o, none⟩ = (#[c0, c1, c2, c3, c4] : Array Value)[o]? := fun o => by
    unfold World.cell?; simp only; rw [h3]; rfl
  exact ⟨h3, c 0, c 1, c 2, c 3, c 4⟩
theorem tword_wf (o n : Int) : (Lit.int .u64 (tword o n)).wf = true := by
  have hmin : IntKind.u64.min = 0 := rfl
  have hmax : IntKind.u64.max = 18446744073709551615 := rfl
  have h : 0 ≤ tword o n ∧ tword o n ≤ 65535 := by unfold tword; omega
  generalize tword o n = t at *
  simp only [Lit.wf, Bool.and_eq_true, decide_eq_true_eq]; omega

/-- The cells of a new world. -/
noncomputable def newCells (cb ib nb : Nat) (c : Conf) : Array Value :=
  (((((((((Try.zeroCells42.setIfInBounds 0 (.pointer (some ⟨cb, 0, none⟩))).setIfInBounds 1 (.pointer (some ⟨ib, 0, none⟩))).setIfInBounds 2 (.pointer (some ⟨nb, 0, none⟩))).setIfInBounds 3 (.int .i64 c.bits)).setIfInBounds
    4 (.int .i64 c.budget)).setIfInBounds 5 (.int .i64 c.tries)).setIfInBounds 6 (.int .i64 c.quantum)).setIfInBounds 7 (.int .i64 c.way)).setIfInBounds 72 (.int .i64 (-1)))
theorem new_cells (cb ib nb : Nat) (c : Conf) : newCells cb ib nb c = (worldV cb ib nb c tk0 (-1)).toArray := by
  kernel_rfl
theorem new_fin {w w3 w4 : World} {cb : Nat} {v : Int} (hB : Below w.heap.size w w3) (g1 : Own w w4 cb (CS.init [(2, v)])) (g2 : Below w3.drew.heap.size w3.drew w4) (l1 : w.heap.size < w3.heap.size) (c : Conf) :
    let W := ((w4.alloc (.cells #[.slice none 0 0, .int .i64 0] 157)).alloc (.cells #[.slice none 0 0] 197)).alloc (.cells (newCells cb w4.heap.size (w4.heap.size + 1) c) 42)
    W.heap[w4.heap.size + 1 + 1]? = some (.cells (worldV cb w4.heap.size (w4.heap.size + 1) c tk0 (-1)).toArray 42 (0, 0)) ∧ w.heap.size ≤ w4.heap.size + 1 + 1 ∧ Own w W cb (CS.init [(2, v)]) ∧
    W.heap[w4.heap.size]? = some (.cells #[.slice none 0 0, .int .i64 0] 157 (0, 0)) ∧ w.heap.size ≤ w4.heap.size ∧ W.heap[w4.heap.size + 1]? = some (.cells #[.slice none 0 0] 197 (0, 0)) ∧ w.heap.size ≤ w4.heap.size + 1 := by
  have hs : w3.heap.size ≤ w4.heap.size := g2.size
  have e1 := heap_alloc_new w4 (.cells #[.slice none 0 0, .int .i64 0] 157)
  have e2 := heap_alloc_new (w4.alloc (.cells #[.slice none 0 0, .int .i64 0] 157)) (.cells #[.slice none 0 0] 197)
  have e3 := heap_alloc_new ((w4.alloc (.cells #[.slice none 0 0, .int .i64 0] 157)).alloc (.cells #[.slice none 0 0] 197)) (.cells (newCells cb w4.heap.size (w4.heap.size + 1) c) 42)
  have s1 : (w4.alloc (.cells #[.slice none 0 0, .int .i64 0] 157)).heap.size = w4.heap.size + 1 := by simp
  have s2 : ((w4.alloc (.cells #[.slice none 0 0, .int .i64 0] 157)).alloc (.cells #[.slice none 0 0] 197)).heap.size = w4.heap.size + 1 + 1 := by simp
  rw [s1] at e2
  rw [s2] at e3
  refine ⟨by rw [← new_cells]; exact e3, by omega, ?_, ?_, by omega, ?_, by omega⟩
  · exact g1.keep ((((Below.refl _ _).alloc (Nat.le_refl _) _).alloc (by simp) _).alloc (by simp; omega) _)
  · rw [Below.heap_alloc _ _ _ (by rw [s2]; omega), Below.heap_alloc _ _ _ (by rw [s1]; omega)]; exact e1
  · rw [Below.heap_alloc _ _ _ (by rw [s2]; omega)]; exact e2

set_option maxRecDepth 10000 in
set_option maxHeartbeats 2000000 in
theorem wnew_ok (c : Conf) (hc : c.ok = true) (w : World) : Calls Try.prog 8 #[.agg #[.int .i64 c.bits, .int .i64 c.budget, .int .i64 c.tries, .int .i64 c.quantum, .int .i64 c.way]] w fun e w' => ∃ wb cb ib nb, e = .returned (.tuple #[.pointer (some ⟨wb, 0, none⟩), .int .i64 0]) ∧
    w'.heap[wb]? = some (.cells (worldV cb ib nb c tk0 (-1)).toArray 42 (0, 0)) ∧ w.heap.size ≤ wb ∧ Own w w' cb (CS.init [(2, tword c.bits 0)]) ∧
    w'.heap[ib]? = some (.cells #[.slice none 0 0, .int .i64 0] 157 (0, 0)) ∧ w.heap.size ≤ ib ∧ w'.heap[nb]? = some (.cells #[.slice none 0 0] 197 (0, 0)) ∧ w.heap.size ≤ nb := by
  go_enter Try.func8, Try.ntmps8
  go_wp2_with (first
    | (go_at_call 11; refine (wmay_any c _).mono ?_; rw [hc]; rintro e w1 ⟨rfl, h1⟩; have b1 := h1.cell (p := ⟨w.heap.size, 0, none⟩) (by simp); have hbs := h1.size)
    | (go_at_call 51; refine (word_any _ _ _).mono ?_; rintro e w2 ⟨rfl, rfl⟩))
  have hq0 := heap_alloc_new w (.cells #[.int .i64 c.bits, .int .i64 c.budget, .int .i64 c.tries, .int .i64 c.quantum, .int .i64 c.way] 23)
  obtain ⟨hq2, -⟩ := box5 hq0 h1
  have hB2 : Below w.heap.size w w2 := ((Below.refl _ w).alloc (Nat.le_refl _) _).trans (h1.mono (by simp))
  have hB3 : Below w.heap.size w (w2.alloc (.cells #[.int .u64 2, .int .u64 (tword c.bits 0)] 121)) := hB2.alloc hB2.size _
  obtain ⟨hq3, x0, x1, x2, x3, x4⟩ := box5 hq2 ((Below.refl w2.heap.size w2).alloc (Nat.le_refl _) (.cells #[.int .u64 2, .int .u64 (tword c.bits 0)] 121))
  have hy := heap_alloc_new w2 (.cells #[.int .u64 2, .int .u64 (tword c.bits 0)] 121)
  clear h1 hq0 hq2 hB2 b1 hbs
  generalize w2.alloc (.cells #[.int .u64 2, .int .u64 (tword c.bits 0)] 121) = w3 at *
  have y0 : w3.cell? ⟨w2.heap.size, 0, none⟩ = some (.int .u64 2) := by simp [World.cell?, hy]
  have y1 : w3.cell? ⟨w2.heap.size, 1, none⟩ = some (.int .u64 (tword c.bits 0)) := by simp [World.cell?, hy]
  have l1 : w.heap.size < w3.heap.size := (Array.getElem?_eq_some_iff.1 hq3).1
  have hn := new_first w3.drew (w0 := w) (hB3.trans ⟨rfl, rfl, rfl, Nat.le_refl _, fun _ _ => rfl⟩) 2 (tword c.bits 0) (by decide) (tword_wf _ _)
  have HQ := Lib.hid hq3; have HB := Lib.hid hB3
  clear hq3 hy hB3
  go_region_with (first
    | (go_at_call 52; refine hn.mono ?_; rintro e w4 ⟨cb, rfl, g1, g2⟩; have g3 := g2.size; have l2 : w.heap.size < w4.heap.size := Nat.lt_of_lt_of_le l1 g3; obtain ⟨hq4, z0, z1, z2, z3, z4⟩ := box5 (w := w3.drew) HQ.out g2; clear x0 x1 x2 x3 x4; have HQ4 := Lib.hid hq4; have G1 := Lib.hid g1; have G2 := Lib.hid g2; clear hq4 g1 g2)
    | (go_at_call 53; refine (items_new _).mono ?_; rintro e w5 ⟨rfl, rfl⟩)
    | (go_at_call 54; refine (notes_new _).mono ?_; rintro e w6 ⟨rfl, rfl⟩))
  all_goals (try go_wp2)
  all_goals (go_ret2)
  all_goals (exact ⟨_, cb, _, _, rfl, new_fin HB.out G1.out G2.out l1 c⟩)
end Go.Proofs.Yteofdldlmmkgbaa

/-
  A world: its cells and its config; Full, Grows, Steps.
-/
namespace Go.Proofs.Yteofdldlmmkgbaa
open Go.RowKit Go.Maps
set_option linter.unusedVariables false

/-- A world that was made since w0: its cells, its config; whatever else it has. -/
structure Wld (w0 w : World) (wb cb : Nat) (c : Conf) (s : CS) : Prop where
  own : Own w0 w cb s
  blk : ∃ ib nb tk h, w.heap[wb]? = some (.cells (worldV cb ib nb c tk h).toArray 42 (0, 0))
theorem Wld.keep {w0 w w1 : World} {wb cb : Nat} {c : Conf} {s : CS} (h : Wld w0 w wb cb c s) (h2 : Below w.heap.size w w1) : Wld w0 w1 wb cb c s := by
  obtain ⟨ib, nb, tk, hh, hb⟩ := h.blk
  exact ⟨h.own.keep h2, ib, nb, tk, hh, below_rest h2 _ _ _ _ hb rfl rfl⟩
theorem Wld.acc {w0 w w1 : World} {wb cb : Nat} {c : Conf} {s s' : CS} (h : Wld w0 w wb cb c s) (h1 : Own w0 w1 cb s') (h2 : Rest w w1) : Wld w0 w1 wb cb c s' := by
  obtain ⟨ib, nb, tk, hh, hb⟩ := h.blk
  exact ⟨h1, ib, nb, tk, hh, h2 _ _ _ _ hb rfl rfl⟩
theorem Wld.cell {w0 w : World} {wb cb : Nat} {c : Conf} {s : CS} (h : Wld w0 w wb cb c s) : w.cell? ⟨wb, 0, none⟩ = some (.pointer (some ⟨cb, 0, none⟩)) ∧ w.cell? ⟨wb, 3, none⟩ = some (.int .i64 c.bits) ∧ w.cell? ⟨wb, 4, none⟩ = some (.int .i64 c.budget) := by
  obtain ⟨ib, nb, tk, hh, hb⟩ := h.blk
  have k : ∀ o, w.cell? ⟨wb, o, none⟩ = (worldV cb ib nb c tk hh).toArray[o]? := fun o => by unfold World.cell?; simp only; rw [hb]; rfl
  rw [k, k, k]
  simp [worldV, Conf.cells]

theorem steps_any {w0 w : World} {wb cb : Nat} {c : Conf} {s : CS} (h : Wld w0 w wb cb c s) : Calls Try.prog 20 #[.pointer (some ⟨wb, 0, none⟩)] w fun e w' => e = .returned (.int .i64 s.cnt) ∧ w' = w := by
  obtain ⟨c0, -, -⟩ := h.cell
  have hk := count_own h.own
  clear h
  go_enter Try.func20, Try.ntmps20
  go_wp2_with (go_at_call 68; refine hk.mono ?_; rintro e w' ⟨rfl, rfl⟩)
  go_ret
  exact ⟨rfl, rfl⟩
theorem full_any {w0 w : World} {wb cb : Nat} {c : Conf} {s : CS} (h : Wld w0 w wb cb c s) (hb : 1 ≤ c.budget ∧ c.budget ≤ 65536) : Calls Try.prog 17 #[.pointer (some ⟨wb, 0, none⟩)] w fun e w' => e = .returned (.bool (decide (c.budget ≤ s.val 6))) ∧ Below w.heap.size w w' := by
  have hmf : ∀ (fn : Fn) (first cap : Array Value) (w : World), (Instr.makeFunc fn first cap).run Try.prog w = .ok (.func fn first cap) w := fun _ _ _ _ => rfl
  have hbw : IntKind.u64.wrap c.budget = c.budget := by rw [IntKind.wrap_u64]; omega
  have hb0 : ¬ c.budget < 0 := by omega
  obtain ⟨c0, c3, c4⟩ := h.cell
  have x4 := fun st : ExtW w => st.cell c4
  have hk : ∀ st : ExtW w, Calls Try.prog 27 #[.pointer (some ⟨cb, 0, none⟩), .int .u64 6] st.val fun e w' => e = .returned (.int .u64 (s.val 6)) ∧ st.val = w' := fun st => (peek_own (h.own.keep st.below) 6 (by decide)).mono fun e w' ⟨he, hw⟩ => ⟨he, hw.symm⟩
  clear h
  go_enter Try.func17, Try.ntmps17
  go_wp2_with fail
  refine wp_region_ext (by kernel_rfl) (by kernel_rfl) ?_
  repeat (go_big_quiet_step ((go_at_call 27; with_reducible refine calls_ext_same (hk _))))
  refine wpQuiet_nil ?_
  rintro W ⟨⟨W2, hW⟩, rfl⟩
  clear x4 hk
  go_wp2
  go_ret
  exact ⟨rfl, hW⟩

theorem pmay_ext (a b d : Int) (hd : 0 ≤ d ∧ d < 256) (hg : (Lit.int .i64 b).wf = true) {w : World} (st : ExtW w) : Calls Try.prog 61 #[.int .i64 a, .int .i64 b, .int .i64 d] st.val fun e w' => e = .returned (.bool (pmay a b d)) ∧ st.val = w' :=
  (pmay_any a b d hd hg st.val).mono fun e w' ⟨he, hw⟩ => ⟨he, hw.symm⟩
theorem grows_any {w0 w : World} {wb cb : Nat} {c : Conf} {s : CS} (h : Wld w0 w wb cb c s) (hg : (Lit.int .i64 c.budget).wf = true) : Calls Try.prog 15 #[.pointer (some ⟨wb, 0, none⟩)] w fun e w' => e = .returned (.bool (asNow (s.val 2) == 0 && pmay c.bits c.budget (asOld (s.val 2)))) ∧ Below w.heap.size w w' := by
  have hmf : ∀ (fn : Fn) (first cap : Array Value) (w : World), (Instr.makeFunc fn first cap).run Try.prog w = .ok (.func fn first cap) w := fun _ _ _ _ => rfl
  obtain ⟨c0, c3, c4⟩ := h.cell
  have x3 := fun st : ExtW w => st.cell c3
  have x4 := fun st : ExtW w => st.cell c4
  have hk := peek_own h.own 2 (by decide)
  have ha := as_any (s.val 2) (h.own.wf 2) w
  have hr := as_range (s.val 2)
  generalize asNow (s.val 2) = n at *
  generalize asOld (s.val 2) = o at *
  have hm := fun st : ExtW w => pmay_ext c.bits c.budget o ⟨hr.1, hr.2.1⟩ hg st
  clear h hg hr
  cases hn : (n == 0)
  · go_enter Try.func15, Try.ntmps15
    go_wp2_with (first | (go_at_call 27; refine hk.mono ?_; rintro e w' ⟨rfl, rfl⟩) | (go_at_call 60; refine ha.mono ?_; rintro e w' ⟨rfl, rfl⟩))
    refine wp_region_ext (by kernel_rfl) (by kernel_rfl) ?_
    repeat (go_big_quiet_step ((go_at_call 61; with_reducible refine calls_ext_same (hm _))))
    refine wpQuiet_nil ?_
    rintro W ⟨⟨W2, hW⟩, rfl⟩
    clear x3 x4 hm
    go_wp2
    go_ret
    exact ⟨rfl, hW⟩
  · go_enter Try.func15, Try.ntmps15
    go_wp2_with (first | (go_at_call 27; refine hk.mono ?_; rintro e w' ⟨rfl, rfl⟩) | (go_at_call 60; refine ha.mono ?_; rintro e w' ⟨rfl, rfl⟩))
    refine wp_region_ext (by kernel_rfl) (by kernel_rfl) ?_
    repeat (go_big_quiet_step ((go_at_call 61; with_reducible refine calls_ext_same (hm _))))
    refine wpQuiet_nil ?_
    rintro W ⟨⟨W2, hW⟩, rfl⟩
    clear x3 x4 hm
    go_wp2
    go_ret
    exact ⟨rfl, hW⟩
end Go.Proofs.Yteofdldlmmkgbaa

/-
  The word of the epoch; a tick of it.
-/
namespace Go.Proofs.Yteofdldlmmkgbaa
open Go.RowKit
set_option linter.unusedVariables false

theorem mask_u64 (x : Int) (m : Nat) (k : Nat) (hm : m = 2 ^ k - 1) (hk : k ≤ 63) (h0 : 0 ≤ x) (h1 : x < 18446744073709551616) : bits .and .u64 x (m : Int) = x % ((2 ^ k : Nat) : Int) := by
  obtain ⟨n, rfl⟩ := Int.eq_ofNat_of_zero_le h0
  have hp : (2 : Nat) ^ k ≤ 2 ^ 63 := Nat.pow_le_pow_right (by decide) hk
  have hp0 : 0 < (2 : Nat) ^ k := Nat.two_pow_pos k
  rw [u64_and _ _ (by omega) h1 (by omega) (by omega)]
  simp only [Int.toNat_natCast, hm, Nat.and_two_pow_sub_one_eq_mod]
  omega
theorem mask24 (x : Int) (h0 : 0 ≤ x) (h1 : x < 18446744073709551616) : bits .and .u64 x 16777215 = x % 16777216 := mask_u64 x 16777215 24 (by decide) (by decide) h0 h1
theorem mask16 (x : Int) (h0 : 0 ≤ x) (h1 : x < 18446744073709551616) : bits .and .u64 x 65535 = x % 65536 := mask_u64 x 65535 16 (by decide) (by decide) h0 h1
theorem or_up (a b : Int) (k : Nat) (hk : k ≤ 63) (a0 : 0 ≤ a) (a1 : a < ((2 ^ k : Nat) : Int)) (b0 : 0 ≤ b) (b1 : b * ((2 ^ k : Nat) : Int) < 18446744073709551616) : bits .or .u64 a (b * ((2 ^ k : Nat) : Int)) = a + b * ((2 ^ k : Nat) : Int) := by
  obtain ⟨n, rfl⟩ := Int.eq_ofNat_of_zero_le a0
  obtain ⟨m, rfl⟩ := Int.eq_ofNat_of_zero_le b0
  have hp : (2 : Nat) ^ k ≤ 2 ^ 63 := Nat.pow_le_pow_right (by decide) hk
  have e2 : ((m : Int) * ((2 ^ k : Nat) : Int)) = ((m * 2 ^ k : Nat) : Int) := by simp
  rw [e2] at b1 ⊢
  have hn : n < 2 ^ k := by omega
  rw [u64_or_nat _ _ (by omega) (by omega), Nat.or_comm, Nat.mul_comm, ← Nat.two_pow_add_eq_or_of_lt hn]
  omega

/-- The parts of the epoch's word. -/
def eNow (x : Int) : Int := x % 16777216
def eAt (x : Int) : Int := x / 16777216 % 16777216
def eGen (x : Int) : Int := x / 281474976710656 % 65536
def eWord (n a g : Int) : Int := n + a * 16777216 + g * 281474976710656

theorem said_any (x : Int) (hx : (Lit.int .u64 x).wf = true) (w : World) : Calls Try.prog 78 #[.int .u64 x] w fun e w' => e = .returned (.agg #[.int .i64 (eNow x), .int .i64 (eAt x), .int .i64 (eGen x)]) ∧ Below w.heap.size w w' := by
  have h : 0 ≤ x ∧ x < 18446744073709551616 := by
    have hmin : IntKind.u64.min = 0 := rfl
    have hmax : IntKind.u64.max = 18446744073709551615 := rfl
    simp only [Lit.wf, Bool.and_eq_true, decide_eq_true_eq] at hx; omega
  have m0 := mask24 x h.1 h.2
  have m1 := mask24 (x / 16777216) (by omega) (by omega)
  have m2 := mask16 (x / 281474976710656) (by omega) (by omega)
  have r0 : eNow x = x % 16777216 := rfl
  have r1 : eAt x = x / 16777216 % 16777216 := rfl
  have r2 : eGen x = x / 281474976710656 % 65536 := rfl
  rw [← r0] at m0
  rw [← r1] at m1
  rw [← r2] at m2
  have b0 : 0 ≤ eNow x ∧ eNow x < 16777216 := by omega
  have b1 : 0 ≤ eAt x ∧ eAt x < 16777216 := by omega
  have b2 : 0 ≤ eGen x ∧ eGen x < 65536 := by omega
  have w0 : wrap64 (eNow x) = eNow x := IntWalk.wrap64_in _ (by omega)
  have w1 : wrap64 (eAt x) = eAt x := IntWalk.wrap64_in _ (by omega)
  have w2 : wrap64 (eGen x) = eGen x := IntWalk.wrap64_in _ (by omega)
  clear r0 r1 r2 hx h b0 b1 b2
  generalize eNow x = n at *
  generalize eAt x = a at *
  generalize eGen x = g at *
  go_enter Try.func78, Try.ntmps78
  go_wp2
  refine bodyPost_ret (v := .agg #[.int .i64 n, .int .i64 a, .int .i64 g]) (by simp [results, Try.results78, go_sem]) rfl ⟨rfl, (Below.refl _ _).alloc (Nat.le_refl _) _⟩
theorem eword_any (n a g : Int) (hn : 0 ≤ n ∧ n < 16777216) (ha : 0 ≤ a ∧ a < 16777216) (hg : 0 ≤ g ∧ g < 65536) (w : World) : Calls Try.prog 119 #[.agg #[.int .i64 n, .int .i64 a, .int .i64 g]] w fun e w' => e = .returned (.int .u64 (eWord n a g)) ∧ Below w.heap.size w w' := by
  have m0 : bits .and .u64 n 16777215 = n := by rw [mask24 n (by omega) (by omega)]; omega
  have m1 : bits .and .u64 a 16777215 = a := by rw [mask24 a (by omega) (by omega)]; omega
  have m2 : bits .and .u64 g 65535 = g := by rw [mask16 g (by omega) (by omega)]; omega
  have o1 : bits .or .u64 n (a * 16777216) = n + a * 16777216 := or_up n a 24 (by decide) hn.1 (by simpa using hn.2) ha.1 (by simp; omega)
  have o2 : bits .or .u64 (n + a * 16777216) (g * 281474976710656) = eWord n a g := or_up (n + a * 16777216) g 48 (by decide) (by omega) (by simp; omega) hg.1 (by simp; omega)
  go_enter Try.func119, Try.ntmps119
  go_wp2
  go_ret
  exact ⟨rfl, (Below.refl _ _).alloc (Nat.le_refl _) _⟩

/-- The word a tick later. -/
def eNext (x : Int) : Int := if eNow x < 16777215 then eNow x + 1 else 16777215
def eTick (x : Int) : Int := if 0 < eAt x ∧ eAt x ≤ eNext x then eWord (eNext x) 0 (if eGen x < 65535 then eGen x + 1 else 65535) else eWord (eNext x) (eAt x) (eGen x)

set_option maxRecDepth 10000 in
theorem etick_any (x : Int) (hx : (Lit.int .u64 x).wf = true) (w : World) : Calls Try.prog 80 #[.int .u64 x] w fun e w' => e = .returned (.int .u64 (eTick x)) ∧ Below w.heap.size w w' := by
  have hs := said_any x hx w
  have b0 : 0 ≤ eNow x ∧ eNow x < 16777216 := by unfold eNow; omega
  have b1 : 0 ≤ eAt x ∧ eAt x < 16777216 := by unfold eAt; omega
  have b2 : 0 ≤ eGen x ∧ eGen x < 65536 := by unfold eGen; omega
  unfold eTick eNext
  clear hx
  generalize eNow x = n at *
  generalize eAt x = a at *
  generalize eGen x = g at *
  obtain ⟨n', hn'⟩ : ∃ n', n' = if n < 16777215 then n + 1 else 16777215 := ⟨_, rfl⟩
  rw [← hn']
  have c0 : 0 ≤ n' ∧ n' < 16777216 := by rw [hn']; split <;> omega
  have hmin : min (n + 1) 16777215 = n' := by rw [hn']; split <;> omega
  by_cases hd : 0 < a ∧ a ≤ n'
  · rw [if_pos hd]
    obtain ⟨g', hg'⟩ : ∃ g', g' = if g < 65535 then g + 1 else 65535 := ⟨_, rfl⟩
    rw [← hg']
    have c2 : 0 ≤ g' ∧ g' < 65536 := by rw [hg']; split <;> omega
    have hming : min (g + 1) 65535 = g' := by rw [hg']; split <;> omega
    go_enter Try.func80, Try.ntmps80
    go_wp2_with (first | (go_at_call 78; refine hs.mono ?_; rintro e w1 ⟨rfl, h1⟩) | (go_at_call 119; refine (eword_any _ _ _ (by omega) (by omega) (by omega) _).mono ?_; rintro e w2 ⟨rfl, h2⟩))
    all_goals (have hs1 := h1.size)
    all_goals go_ret
    all_goals refine ⟨rfl, Below.trans ?_ (h2.mono ?_)⟩
    all_goals first | (simp; done) | (simp; omega) | (repeat (first | exact h1 | (refine Below.setCell ?_ (by simpa using hs1) _) | (refine Below.alloc ?_ (by simpa using hs1) _)))
  · rw [if_neg hd]
    go_enter Try.func80, Try.ntmps80
    go_wp2_with (first | (go_at_call 78; refine hs.mono ?_; rintro e w1 ⟨rfl, h1⟩) | (go_at_call 119; refine (eword_any _ _ _ (by omega) (by omega) (by omega) _).mono ?_; rintro e w2 ⟨rfl, h2⟩))
    all_goals (have hs1 := h1.size)
    all_goals go_ret
    all_goals refine ⟨rfl, Below.trans ?_ (h2.mono ?_)⟩
    all_goals first | (simp; done) | (simp; omega) | (repeat (first | exact h1 | (refine Below.setCell ?_ (by simpa using hs1) _) | (refine Below.alloc ?_ (by simpa using hs1) _)))
end Go.Proofs.Yteofdldlmmkgbaa

/-
  What is done in a world: a tick.
-/
namespace Go.Proofs.Yteofdldlmmkgbaa
open Go.RowKit Go.Maps
set_option linter.unusedVariables false

theorem etick_wf (x : Int) : (Lit.int .u64 (eTick x)).wf = true := by
  have hmin : IntKind.u64.min = 0 := rfl
  have hmax : IntKind.u64.max = 18446744073709551615 := rfl
  have b0 : 0 ≤ eNext x ∧ eNext x < 16777216 := by unfold eNext eNow; split <;> omega
  have b1 : 0 ≤ eAt x ∧ eAt x < 16777216 := by unfold eAt; omega
  have b2 : 0 ≤ eGen x ∧ eGen x < 65536 := by unfold eGen; omega
  have h : 0 ≤ eTick x ∧ eTick x < 18446744073709551616 := by
    unfold eTick eWord
    split
    · split <;> omega
    · omega
  generalize eTick x = t at *
  simp only [Lit.wf, Bool.and_eq_true, decide_eq_true_eq]; omega

theorem Rest.refl (w : World) : Rest w w := fun _ _ _ _ h _ _ => h
theorem Rest.trans {a b c : World} (h : Rest a b) (k : Rest b c) : Rest a c := fun i cs T fr hi h1 h2 => k i cs T fr (h i cs T fr hi h1 h2) h1 h2
/-- A world behind an access. -/
theorem Wld.of {w0 w w' : World} {wb cb : Nat} {c : Conf} {s s' : CS} {S : Nat → Prop} (h : Wld w0 w wb cb c s) (hS : Cells w w0.heap.size cb s S) (hA : Acc w w0.heap.size cb s' S w') : Wld w0 w' wb cb c s' ∧ Rest w w' :=
  ⟨h.acc (Own.acc hS h.own.below hA) (hA.rest hS), hA.rest hS⟩

section
variable {w0 w : World} {wb cb : Nat} {c : Conf} {s : CS} (h : Wld w0 w wb cb c s) (hr : s.room) (a : Int) (ha : (Lit.int .u64 a).wf = true)
include h hr ha
theorem Wld.load : Calls Try.prog 120 #[.pointer (some ⟨cb, 0, none⟩), .int .u64 a] w fun e w' => e = .returned (.int .u64 (s.val a)) ∧ Wld w0 w' wb cb c (s.acc 1 a (s.val a)) ∧ Rest w w' := by
  obtain ⟨⟨S, hS⟩, hB⟩ := h.own
  exact (load_any w _ cb s S hS a ha hr.1 hr.2 hB.size).mono fun e w' ⟨he, hA⟩ => ⟨he, h.of hS hA⟩
theorem Wld.store (v : Int) (hv : (Lit.int .u64 v).wf = true) : Calls Try.prog 83 #[.pointer (some ⟨cb, 0, none⟩), .int .u64 a, .int .u64 v] w fun e w' => e = .returned (.int .u64 (s.val a)) ∧ Wld w0 w' wb cb c (s.acc 2 a v) ∧ Rest w w' := by
  obtain ⟨⟨S, hS⟩, hB⟩ := h.own
  exact (store_any w _ cb s S hS a v ha hv hr.1 hr.2 hB.size).mono fun e w' ⟨he, hA⟩ => ⟨he, h.of hS hA⟩
theorem Wld.add (v : Int) : Calls Try.prog 22 #[.pointer (some ⟨cb, 0, none⟩), .int .u64 a, .int .u64 v] w fun e w' => e = .returned (.int .u64 (s.val a)) ∧ Wld w0 w' wb cb c (s.acc 4 a (wu (s.val a + v))) ∧ Rest w w' := by
  obtain ⟨⟨S, hS⟩, hB⟩ := h.own
  exact (add_any w _ cb s S hS a v ha hr.1 hr.2 hB.size).mono fun e w' ⟨he, hA⟩ => ⟨he, h.of hS hA⟩
theorem Wld.cas (x y : Int) (hy : (Lit.int .u64 y).wf = true) : Calls Try.prog 79 #[.pointer (some ⟨cb, 0, none⟩), .int .u64 a, .int .u64 x, .int .u64 y] w fun e w' => e = .returned (.tuple #[.int .u64 (s.val a), .bool (s.val a == x)]) ∧
    Wld w0 w' wb cb c (s.acc 3 a (if s.val a = x then y else s.val a)) ∧ Rest w w' := by
  obtain ⟨⟨S, hS⟩, hB⟩ := h.own
  exact (cas_any w _ cb s S hS a x y ha hy hr.1 hr.2 hB.size).mono fun e w' ⟨he, hA⟩ => ⟨he, h.of hS hA⟩
end

set_option maxRecDepth 10000 in
theorem tick_any {w0 w : World} {wb cb : Nat} {c : Conf} {s : CS} (h : Wld w0 w wb cb c s) (hr : s.room) : Calls Try.prog 29 #[.pointer (some ⟨wb, 0, none⟩)] w fun e w' => e = .returned (.tuple #[]) ∧ Wld w0 w' wb cb c (s.acc 3 8 (eTick (s.val 8))) ∧ Rest w w' := by
  obtain ⟨c0, -, -⟩ := h.cell
  have x0 := fun st : ExtW w => st.cell c0
  have hk := peek_own h.own 8 (by decide)
  have hv := h.own.wf 8
  obtain ⟨x, hx⟩ : ∃ x, x = s.val 8 := ⟨_, rfl⟩
  have ht : ∀ st : ExtW w, Calls Try.prog 80 #[.int .u64 x] st.val fun e w' => e = .returned (.int .u64 (eTick x)) ∧ Below st.val.heap.size st.val w' := fun st => etick_any x (by rw [hx]; exact hv) st.val
  have HH := Lib.hid h
  have HR := Lib.hid hr
  rw [← hx] at hk ⊢
  have HX := Lib.hid hx
  clear h hr hv hx
  go_enter Try.func29, Try.ntmps29
  go_wp2_with (go_at_call 27; refine hk.mono ?_; rintro e w' ⟨rfl, rfl⟩)
  refine wp_region_ext_tail 7 (by kernel_rfl) (by kernel_rfl) ?_
  simp only [List.take_succ_cons, List.take_zero, List.drop_succ_cons, List.drop_zero]
  repeat (go_big_quiet_step ((go_at_call 80; with_reducible refine calls_ext (ht _))))
  refine wpQuiet_nil ?_
  rintro W ⟨⟨W2, hW⟩, rfl⟩
  clear x0 ht
  have hf := HH.out.keep hW
  have hs := HX.out
  have hcas := hf.cas HR.out 8 (by decide) x (eTick x) (etick_wf x)
  rw [← hs, if_pos rfl] at hcas
  have HF := Lib.hid hf
  have HW := Lib.hid (below_rest hW)
  clear hs hf hW
  go_wp2_with (go_at_call 79; refine hcas.mono ?_; rintro e w1 ⟨rfl, h1, h2⟩)
  go_end0
  exact ⟨rfl, h1, HW.out.trans h2⟩
end Go.Proofs.Yteofdldlmmkgbaa

/-
  A new world, at hand; layer 10's examples.
-/
namespace Go.Proofs.Yteofdldlmmkgbaa
open Go.RowKit Go.Maps
set_option linter.unusedVariables false

theorem bnext {w a b : World} (h : Below w.heap.size w a) (k : Below a.heap.size a b) : Below w.heap.size w b := h.trans (k.mono h.size)
/-- The cells of a new world. -/
structure New1 (bits : Int) (s : CS) : Prop where
  v2 : s.val 2 = tword bits 0
  vo : ∀ a, a ≠ 2 → s.val a = 0
  cnt : s.cnt = 0
  n : s.n = 1
theorem new1 (bits : Int) : New1 bits (CS.init [(2, tword bits 0)]) := ⟨upd_same (fun _ => 0) 2 (tword bits 0), fun a ha => upd_other (fun _ => 0) ha (tword bits 0), rfl, rfl⟩
theorem New1.room {bits : Int} {s : CS} (h : New1 bits s) : s.room := by unfold CS.room lim; rw [h.cnt, h.n]; omega
theorem CS.acc_val {s : CS} (k a i x : Int) (hx : x ≠ a) : (s.acc k a i).val x = s.val x := upd_other _ hx _
theorem CS.acc_self {s : CS} (k a i : Int) : (s.acc k a i).val a = i := upd_same _ _ _

theorem Own.base {w0 w w' : World} {b : Nat} {s : CS} (h : Own w w' b s) (hB : Below w0.heap.size w0 w) : Own w0 w' b s := by
  obtain ⟨⟨S, hS⟩, h2⟩ := h
  exact Own.new hB hS h2
theorem new_wld {w0 w : World} (hB : Below w0.heap.size w0 w) (c : Conf) (hc : c.ok = true) : Calls Try.prog 8 #[.agg #[.int .i64 c.bits, .int .i64 c.budget, .int .i64 c.tries, .int .i64 c.quantum, .int .i64 c.way]] w fun e w' => ∃ wb cb s,
    e = .returned (.tuple #[.pointer (some ⟨wb, 0, none⟩), .int .i64 0]) ∧ Wld w0 w' wb cb c s ∧ New1 c.bits s ∧ Below w.heap.size w w' :=
  (wnew_ok c hc w).mono fun e w' ⟨wb, cb, ib, nb, he, hb, _, ho, _⟩ => ⟨wb, cb, _, he, ⟨ho.base hB, ib, nb, tk0, -1, hb⟩, new1 _, ho.below⟩

def conf10 : Conf := ⟨2, 8, 3, 1, 16⟩
def conf00 : Conf := ⟨0, 8, 3, 1, 16⟩
set_option maxRecDepth 10000 in
set_option maxHeartbeats 400000 in
theorem lives10 (w : World) : Calls Try.prog 13 #[] w fun e w' => e = .returned (.bool true) ∧ Below w.heap.size w w' := by
  have hg : (asNow (tword 2 0) == 0 && pmay 2 8 (asOld (tword 2 0))) = true := by decide
  have e1 : eTick 0 = 1 := by decide
  have e2 : tword 2 0 = 2 := by decide
  have HG := Lib.hid hg; have E1 := Lib.hid e1; have E2 := Lib.hid e2
  clear hg e1 e2
  have hn1 : Calls Try.prog 8 #[.agg #[.int .i64 2, .int .i64 8, .int .i64 3, .int .i64 1, .int .i64 16]] w fun e w' => ∃ wb cb s, e = .returned (.tuple #[.pointer (some ⟨wb, 0, none⟩), .int .i64 0]) ∧ Wld w w' wb cb conf10 s ∧ New1 2 s ∧ Below w.heap.size w w' := new_wld (Below.refl w.heap.size w) conf10 (by decide)
  have hn2 : ∀ w, Calls Try.prog 8 #[.agg #[.int .i64 0, .int .i64 8, .int .i64 3, .int .i64 1, .int .i64 16]] w fun e w' => e = .returned (.tuple #[.pointer none, .int .i64 1]) ∧ Below w.heap.size w w' := wnew_bad conf00 (by decide)
  go_enter Try.func13, Try.ntmps13
  go_wp2_with (first
    | (go_at_call 8; with_reducible refine hn1.mono ?_; rintro e w1 ⟨wb, cb, s, rfl, h1, n1, b1⟩; clear hn1)
    | (go_at_call 8; with_reducible refine (hn2 _).mono ?_; rintro e w2 ⟨rfl, b2⟩; have h2 := h1.keep b2; obtain ⟨c0, -, -⟩ := h2.cell; clear h1)
    | (go_at_call 27; refine (peek_own h2.own 2 (by decide)).mono ?_; rw [n1.v2, show tword 2 0 = 2 from E2.out]; rintro e w3 ⟨rfl, rfl⟩)
    | (go_at_call 20; refine (steps_any h2).mono ?_; rw [n1.cnt]; rintro e w3 ⟨rfl, rfl⟩)
    | (go_at_call 15; refine (grows_any h2 (by decide)).mono ?_; rw [n1.v2, show (asNow (tword 2 0) == 0 && pmay conf10.bits conf10.budget (asOld (tword 2 0))) = true from HG.out]; rintro e w4 ⟨rfl, b4⟩; have h4 := h2.keep b4; clear h2)
    | (go_at_call 29; refine (tick_any h4 n1.room).mono ?_; rw [n1.vo 8 (by decide), E1.out]; rintro e w5 ⟨rfl, h5, -⟩; clear c0; obtain ⟨c0, -, -⟩ := h5.cell)
    | (go_at_call 27; refine (peek_own h5.own 8 (by decide)).mono ?_; rw [CS.acc_self]; rintro e w3 ⟨rfl, rfl⟩)
    | (go_at_call 20; refine (steps_any h5).mono ?_; rintro e w3 ⟨rfl, rfl⟩))
  go_ret
  exact ⟨by simp [CS.acc, n1.cnt], h5.own.below⟩

theorem box5r {w w' : World} {q T : Nat} {c0 c1 c2 c3 c4 : Value} (hq : w.heap[q]? = some (.cells #[c0, c1, c2, c3, c4] T (0, 0))) (h : Rest w w') (h1 : (T == 167) = false) (h2 : (T == 212) = false) :
    w'.heap[q]? = some (.cells #[c0, c1, c2, c3, c4] T (0, 0)) ∧ w'.cell? ⟨q, 0, none⟩ = some c0 ∧ w'.cell? ⟨q, 1, none⟩ = some c1 ∧ w'.cell? ⟨q, 2, none⟩ = some c2 ∧ w'.cell? ⟨q, 3, none⟩ = some c3 ∧ w'.cell? ⟨q, 4, none⟩ = some c4 :=
  box5 (h q _ _ _ hq h1 h2) (Below.refl _ _)
theorem room_acc {s : CS} {k a i : Int} (m : Nat) (hs : s.n ≤ m ∧ s.cnt ≤ m) : (s.acc k a i).n ≤ m + 1 ∧ (s.acc k a i).cnt ≤ m + 1 := ⟨Nat.succ_le_succ hs.1, Nat.succ_le_succ hs.2⟩
theorem CS.room_of {s : CS} (m : Nat) (hs : s.n ≤ m ∧ s.cnt ≤ m) (hm : m < lim) : s.room := ⟨by omega, by omega⟩
theorem New1.le {bits : Int} {s : CS} (h : New1 bits s) : s.n ≤ 1 ∧ s.cnt ≤ 1 := by rw [h.n, h.cnt]; omega

end Go.Proofs.Yteofdldlmmkgbaa

/-
  Marks of stripes.
-/
namespace Go.Proofs.Yteofdldlmmkgbaa
open Go.RowKit Go.Maps
set_option linter.unusedVariables false

/-- A store into a block of another type than cells' leaves the cells. -/
theorem Own.other {w0 w w' : World} {b : Nat} {s : CS} {q : Nat} {cs : Array Value} {T : TypeId} {fr : Nat × Nat} (h : Own w0 w b s) (hk : Keeps (· = q) w w') (hq : w.heap[q]? = some (.cells cs T fr)) (hlo : w0.heap.size ≤ q)
    (h1 : (T == 167) = false) (h2 : (T == 212) = false) : Own w0 w' b s := by
  obtain ⟨⟨S, hS⟩, hB⟩ := h
  refine ⟨⟨S, hS.keeps hk fun k hk c => ?_⟩, keeps_below hk hB hB.size fun k e => e ▸ hlo⟩
  subst c
  obtain ⟨mo, f, hA, rfl⟩ := hS
  rcases hk with rfl | hm | ⟨a, ha⟩
  · have := hA.hdr.symm.trans hq; simp only [Option.some.injEq, Obj.cells.injEq] at this; rw [← this.2.1] at h1; simp at h1
  · obtain ⟨⟨D, ⟨es, cl, hb, _⟩, _⟩, _⟩ := hA.map k hm
    have := hb.symm.trans hq; cases this
  · have := (hA.ptr a k ha).1.symm.trans hq; simp only [wordC, Option.some.injEq, Obj.cells.injEq] at this; rw [← this.2.1] at h2; simp at h2
theorem Wld.other {w0 w w' : World} {wb cb : Nat} {c : Conf} {s : CS} {q : Nat} {cs : Array Value} {T : TypeId} {fr : Nat × Nat} (h : Wld w0 w wb cb c s) (hk : Keeps (· = q) w w') (hq : w.heap[q]? = some (.cells cs T fr)) (hlo : w0.heap.size ≤ q)
    (h1 : (T == 167) = false) (h2 : (T == 212) = false) (h3 : (T == 42) = false) : Wld w0 w' wb cb c s := by
  obtain ⟨ib, nb, tk, hh, hb⟩ := h.blk
  refine ⟨h.own.other hk hq hlo h1 h2, ib, nb, tk, hh, (hk.block wb (Array.getElem?_eq_some_iff.1 hb).1 fun c => ?_).trans hb⟩
  subst c
  have := hb.symm.trans hq; simp only [Option.some.injEq, Obj.cells.injEq] at this; rw [← this.2.1] at h3; simp at h3

/-- Addresses that are left, without room behind them. -/
def Sl (w : World) (v : Value) (xs : List Int) : Prop :=
  (v = .slice none 0 0 ∧ xs = []) ∨ ∃ g off cur, v = .slice (some ⟨g, off, none⟩) xs.length xs.length ∧ w.heap[g]? = some (.cells cur 56 (0, 0)) ∧ xs.length ≤ maxLen ∧ (cur.toList.drop off).take xs.length = cu xs
theorem Adr.sl {w : World} {base : Nat} {v : Value} {xs : List Int} (h : Adr w base v xs) : Sl w v xs := by
  rcases h with h | ⟨g, cur, rfl, h1, h2, h3, h4⟩
  · exact .inl h
  · exact .inr ⟨g, 0, cur, rfl, h2, h3, by simpa using h4⟩
theorem Sl.keep {w w' : World} {v : Value} {xs : List Int} (h : Sl w v xs) (hb : Below w.heap.size w w') : Sl w' v xs := by
  rcases h with h | ⟨g, off, cur, rfl, h1, h2⟩
  · exact .inl h
  · exact .inr ⟨g, off, cur, rfl, (hb.block g (Array.getElem?_eq_some_iff.1 h1).1).trans h1, h2⟩
theorem Sl.rest {w w' : World} {v : Value} {xs : List Int} (h : Sl w v xs) (hb : Rest w w') : Sl w' v xs := by
  rcases h with h | ⟨g, off, cur, rfl, h1, h2⟩
  · exact .inl h
  · exact .inr ⟨g, off, cur, rfl, hb _ _ _ _ h1 rfl rfl, h2⟩
theorem Sl.len {w : World} {v : Value} {xs : List Int} (h : Sl w v xs) : ∃ a, v = .slice a xs.length xs.length ∧ xs.length ≤ maxLen := by
  rcases h with ⟨rfl, rfl⟩ | ⟨g, off, cur, rfl, h1, h2, h3⟩
  · exact ⟨none, rfl, Nat.zero_le _⟩
  · exact ⟨_, rfl, h2⟩
theorem Sl.at0 {w : World} {v : Value} {a : Int} {r : List Int} (h : Sl w v (a :: r)) : ∃ g off, v = .slice (some ⟨g, off, none⟩) (r.length + 1) (r.length + 1) ∧ w.cell? ⟨g, off, none⟩ = some (.int .u64 a) ∧ r.length + 1 ≤ maxLen ∧
    (∃ cur, w.heap[g]? = some (.cells cur 56 (0, 0))) ∧ Sl w (.slice (some ⟨g, off + 1, none⟩) r.length r.length) r := by
  rcases h with ⟨rfl, h⟩ | ⟨g, off, cur, rfl, h1, h2, h3⟩
  · cases h
  · simp only [List.length_cons] at h2 h3
    have hd : ∃ t, cur.toList.drop off = Value.int .u64 a :: t ∧ t.take r.length = cu r := by
      cases hh : cur.toList.drop off with
      | nil => rw [hh] at h3; simp [cu] at h3
      | cons x t =>
        rw [hh] at h3
        simp only [List.take_succ_cons, cu, List.map_cons, List.cons.injEq] at h3
        exact ⟨t, by rw [h3.1], h3.2⟩
    obtain ⟨t, ht, h4⟩ := hd
    have hc : cur[off]? = some (.int .u64 a) := by
      have : (cur.toList.drop off)[0]? = some (.int .u64 a) := by rw [ht]; rfl
      rw [List.getElem?_drop] at this
      simpa using this
    refine ⟨g, off, rfl, by simp [World.cell?, h1, hc], h2, ⟨cur, h1⟩, .inr ⟨g, off + 1, cur, rfl, h1, by omega, ?_⟩⟩
    have : cur.toList.drop (off + 1) = t := by rw [← List.drop_drop, ht]; rfl
    rw [this]; exact h4

theorem Sl.tail {w : World} {g off : Nat} {r : List Int} (h : ∃ cur, w.heap[g]? = some (.cells cur 56 (0, 0))) (hs : Sl w (.slice (some ⟨g, off + 1, none⟩) r.length r.length) r) : Sl w (.slice (if r = [] then some ⟨g, off, none⟩ else some ⟨g, off + 1, none⟩) r.length r.length) r := by
  obtain ⟨cur, hc⟩ := h
  split
  · rename_i hr; subst hr
    exact .inr ⟨g, off, cur, rfl, hc, Nat.zero_le _, by simp [cu]⟩
  · exact hs
theorem conf_b' {a b : Bool} (h : a = b) : Ending.returned (.bool a) = .returned (.bool b) := by rw [h]
end Go.Proofs.Yteofdldlmmkgbaa
