/-
  New worlds.
-/
import Derived.Test.YtmakjfeepmiggaaGreatConf
import Derived.Test.YtmakjfeepmiggaaGreatCellsOwn
import Derived.Test.YtmakjfeepmiggaaGreatItems
import Derived.Deep.RegionWith
namespace Go.Proofs.YtmakjfeepmiggaaGreat
open Go.RowKit Go.Maps
set_option linter.unusedVariables false

theorem items_new (w : World) : Calls Tryz.prog 127 #[] w fun e w' => e = .returned (.pointer (some ⟨w.heap.size, 0, none⟩)) ∧ w' = w.alloc (.cells #[.slice none 0 0, .int .i64 0] 242) := by
  go_enter Tryz.func127, Tryz.ntmps127
  go_wp2
  go_ret
  exact ⟨rfl, rfl⟩
theorem notes_new (w : World) : Calls Tryz.prog 128 #[] w fun e w' => e = .returned (.pointer (some ⟨w.heap.size, 0, none⟩)) ∧ w' = w.alloc (.cells #[.slice none 0 0] 286) := by
  go_enter Tryz.func128, Tryz.ntmps128
  go_wp2
  go_ret
  exact ⟨rfl, rfl⟩

/-- What a world's block holds. -/
def worldV (cb ib nb : Nat) (c : Conf) (tk : List Value) (holder : Int) : List Value :=
  [.pointer (some ⟨cb, 0, none⟩), .pointer (some ⟨ib, 0, none⟩), .pointer (some ⟨nb, 0, none⟩)] ++ c.cells ++ tk ++ [.int .i64 holder]
def tk0 : List Value := List.replicate 64 (.int .u64 0)

set_option maxRecDepth 10000 in
set_option maxHeartbeats 2000000 in
theorem wnew_bad (c : Conf) (hc : c.ok = false) (w : World) : Calls Tryz.prog 47 #[.agg #[.int .i64 c.bits, .int .i64 c.budget, .int .i64 c.tries, .int .i64 c.quantum, .int .i64 c.way]] w fun e w' => e = .returned (.tuple #[.pointer none, .int .i64 1]) ∧ Below w.heap.size w w' := by
  go_enter Tryz.func47, Tryz.ntmps47
  go_wp2_with (go_at_call 124; refine (wmay_any c _).mono ?_; rw [hc]; rintro e w1 ⟨rfl, h1⟩)
  go_ret2
  exact ⟨rfl, ((Below.refl _ w).alloc (Nat.le_refl _) _).trans (h1.mono (by simp))⟩

theorem new_first {w0 : World} (w : World) (hB : Below w0.heap.size w0 w) (a v : Int) (ha : (Lit.int .u64 a).wf = true) (hv : (Lit.int .u64 v).wf = true) :
    Calls Tryz.prog 126 #[.slice (some ⟨w.heap.size, 0, none⟩) 1 1] (w.alloc (.cells #[.int .u64 a, .int .u64 v] 226)) fun e w' => ∃ b, e = .returned (.pointer (some ⟨b, 0, none⟩)) ∧ Own w0 w' b (CS.init [(a, v)]) ∧ Below w.heap.size w w' := by
  have hq := heap_alloc_new w (.cells #[.int .u64 a, .int .u64 v] 226)
  have hb1 : Below w.heap.size w (w.alloc (.cells #[.int .u64 a, .int .u64 v] 226)) := (Below.refl _ _).alloc (Nat.le_refl _) _
  refine (new_words (w.alloc (.cells #[.int .u64 a, .int .u64 v] 226)) w.heap.size 0 1 [(a, v)] (by simp) (by unfold maxLen; omega) (by unfold lim; simp) (fun k hk => ?_) (fun p hp => ?_)).mono fun e w' ⟨b, S, he, h1, h2⟩ => ⟨b, he, Own.new (hB.alloc hB.size _) h1 h2, hb1.trans (h2.mono hb1.size)⟩
  · have hk0 : k = 0 := by simpa using hk
    subst hk0
    have c : ∀ o, (w.alloc (.cells #[.int .u64 a, .int .u64 v] 226)).cell? ⟨w.heap.size, o, none⟩ = (#[.int .u64 a, .int .u64 v] : Array Value)[o]? := fun o => by
      unfold World.cell?
      simp only
      rw [hq]
      rfl
    exact ⟨c 0, c 1⟩
  · simp only [List.mem_singleton] at hp
    rw [hp]; exact ⟨ha, hv⟩

theorem box5 {w w' : World} {q T : Nat} {c0 c1 c2 c3 c4 : Value} (hq : w.heap[q]? = some (.cells #[c0, c1, c2, c3, c4] T (0, 0))) (h : Below w.heap.size w w') :
    w'.heap[q]? = some (.cells #[c0, c1, c2, c3, c4] T (0, 0)) ∧ w'.cell? ⟨q, 0, none⟩ = some c0 ∧ w'.cell? ⟨q, 1, none⟩ = some c1 ∧ w'.cell? ⟨q, 2, none⟩ = some c2 ∧ w'.cell? ⟨q, 3, none⟩ = some c3 ∧ w'.cell? ⟨q, 4, none⟩ = some c4 := by
  have h3 := (h.block q (Array.getElem?_eq_some_iff.1 hq).1).trans hq
  have c : ∀ o, w'.cell? ⟨q, o, none⟩ = (#[c0, c1, c2, c3, c4] : Array Value)[o]? := fun o => by
    unfold World.cell?; simp only; rw [h3]; rfl
  exact ⟨h3, c 0, c 1, c 2, c 3, c 4⟩
theorem tword_wf (o n : Int) : (Lit.int .u64 (tword o n)).wf = true := by
  have hmin : IntKind.u64.min = 0 := rfl
  have hmax : IntKind.u64.max = 18446744073709551615 := rfl
  have h : 0 ≤ tword o n ∧ tword o n ≤ 65535 := by unfold tword; omega
  generalize tword o n = t at *
  simp only [Lit.wf, Bool.and_eq_true, decide_eq_true_eq]; omega

/-- The cells of a new world. -/
noncomputable def newCells (cb ib nb : Nat) (c : Conf) : Array Value :=
  (((((((((Tryz.zeroCells117.setIfInBounds 0 (.pointer (some ⟨cb, 0, none⟩))).setIfInBounds 1 (.pointer (some ⟨ib, 0, none⟩))).setIfInBounds 2 (.pointer (some ⟨nb, 0, none⟩))).setIfInBounds 3 (.int .i64 c.bits)).setIfInBounds
    4 (.int .i64 c.budget)).setIfInBounds 5 (.int .i64 c.tries)).setIfInBounds 6 (.int .i64 c.quantum)).setIfInBounds 7 (.int .i64 c.way)).setIfInBounds 72 (.int .i64 (-1)))
theorem new_cells (cb ib nb : Nat) (c : Conf) : newCells cb ib nb c = (worldV cb ib nb c tk0 (-1)).toArray := by
  kernel_rfl
theorem new_fin {w w3 w4 : World} {cb : Nat} {v : Int} (hB : Below w.heap.size w w3) (g1 : Own w w4 cb (CS.init [(2, v)])) (g2 : Below w3.drew.heap.size w3.drew w4) (l1 : w.heap.size < w3.heap.size) (c : Conf) :
    let W := ((w4.alloc (.cells #[.slice none 0 0, .int .i64 0] 242)).alloc (.cells #[.slice none 0 0] 286)).alloc (.cells (newCells cb w4.heap.size (w4.heap.size + 1) c) 117)
    W.heap[w4.heap.size + 1 + 1]? = some (.cells (worldV cb w4.heap.size (w4.heap.size + 1) c tk0 (-1)).toArray 117 (0, 0)) ∧ w.heap.size ≤ w4.heap.size + 1 + 1 ∧ Own w W cb (CS.init [(2, v)]) ∧
    W.heap[w4.heap.size]? = some (.cells #[.slice none 0 0, .int .i64 0] 242 (0, 0)) ∧ w.heap.size ≤ w4.heap.size ∧ W.heap[w4.heap.size + 1]? = some (.cells #[.slice none 0 0] 286 (0, 0)) ∧ w.heap.size ≤ w4.heap.size + 1 := by
  have hs : w3.heap.size ≤ w4.heap.size := g2.size
  have e1 := heap_alloc_new w4 (.cells #[.slice none 0 0, .int .i64 0] 242)
  have e2 := heap_alloc_new (w4.alloc (.cells #[.slice none 0 0, .int .i64 0] 242)) (.cells #[.slice none 0 0] 286)
  have e3 := heap_alloc_new ((w4.alloc (.cells #[.slice none 0 0, .int .i64 0] 242)).alloc (.cells #[.slice none 0 0] 286)) (.cells (newCells cb w4.heap.size (w4.heap.size + 1) c) 117)
  have s1 : (w4.alloc (.cells #[.slice none 0 0, .int .i64 0] 242)).heap.size = w4.heap.size + 1 := by simp
  have s2 : ((w4.alloc (.cells #[.slice none 0 0, .int .i64 0] 242)).alloc (.cells #[.slice none 0 0] 286)).heap.size = w4.heap.size + 1 + 1 := by simp
  rw [s1] at e2
  rw [s2] at e3
  refine ⟨by rw [← new_cells]; exact e3, by omega, ?_, ?_, by omega, ?_, by omega⟩
  · exact g1.keep ((((Below.refl _ _).alloc (Nat.le_refl _) _).alloc (by simp) _).alloc (by simp; omega) _)
  · rw [Below.heap_alloc _ _ _ (by rw [s2]; omega), Below.heap_alloc _ _ _ (by rw [s1]; omega)]; exact e1
  · rw [Below.heap_alloc _ _ _ (by rw [s2]; omega)]; exact e2

set_option maxRecDepth 10000 in
set_option maxHeartbeats 2000000 in
theorem wnew_ok (c : Conf) (hc : c.ok = true) (w : World) : Calls Tryz.prog 47 #[.agg #[.int .i64 c.bits, .int .i64 c.budget, .int .i64 c.tries, .int .i64 c.quantum, .int .i64 c.way]] w fun e w' => ∃ wb cb ib nb, e = .returned (.tuple #[.pointer (some ⟨wb, 0, none⟩), .int .i64 0]) ∧
    w'.heap[wb]? = some (.cells (worldV cb ib nb c tk0 (-1)).toArray 117 (0, 0)) ∧ w.heap.size ≤ wb ∧ Own w w' cb (CS.init [(2, tword c.bits 0)]) ∧
    w'.heap[ib]? = some (.cells #[.slice none 0 0, .int .i64 0] 242 (0, 0)) ∧ w.heap.size ≤ ib ∧ w'.heap[nb]? = some (.cells #[.slice none 0 0] 286 (0, 0)) ∧ w.heap.size ≤ nb := by
  go_enter Tryz.func47, Tryz.ntmps47
  go_wp2_with (first
    | (go_at_call 124; refine (wmay_any c _).mono ?_; rw [hc]; rintro e w1 ⟨rfl, h1⟩; have b1 := h1.cell (p := ⟨w.heap.size, 0, none⟩) (by simp); have hbs := h1.size)
    | (go_at_call 125; refine (word_any _ _ _).mono ?_; rintro e w2 ⟨rfl, rfl⟩))
  have hq0 := heap_alloc_new w (.cells #[.int .i64 c.bits, .int .i64 c.budget, .int .i64 c.tries, .int .i64 c.quantum, .int .i64 c.way] 23)
  obtain ⟨hq2, -⟩ := box5 hq0 h1
  have hB2 : Below w.heap.size w w2 := ((Below.refl _ w).alloc (Nat.le_refl _) _).trans (h1.mono (by simp))
  have hB3 : Below w.heap.size w (w2.alloc (.cells #[.int .u64 2, .int .u64 (tword c.bits 0)] 226)) := hB2.alloc hB2.size _
  obtain ⟨hq3, x0, x1, x2, x3, x4⟩ := box5 hq2 ((Below.refl w2.heap.size w2).alloc (Nat.le_refl _) (.cells #[.int .u64 2, .int .u64 (tword c.bits 0)] 226))
  have hy := heap_alloc_new w2 (.cells #[.int .u64 2, .int .u64 (tword c.bits 0)] 226)
  clear h1 hq0 hq2 hB2 b1 hbs
  generalize w2.alloc (.cells #[.int .u64 2, .int .u64 (tword c.bits 0)] 226) = w3 at *
  have y0 : w3.cell? ⟨w2.heap.size, 0, none⟩ = some (.int .u64 2) := by simp [World.cell?, hy]
  have y1 : w3.cell? ⟨w2.heap.size, 1, none⟩ = some (.int .u64 (tword c.bits 0)) := by simp [World.cell?, hy]
  have l1 : w.heap.size < w3.heap.size := (Array.getElem?_eq_some_iff.1 hq3).1
  have hn := new_first w3.drew (w0 := w) (hB3.trans ⟨rfl, rfl, rfl, Nat.le_refl _, fun _ _ => rfl⟩) 2 (tword c.bits 0) (by decide) (tword_wf _ _)
  have HQ := Lib.hid hq3; have HB := Lib.hid hB3
  clear hq3 hy hB3
  go_region_with (first
    | (go_at_call 126; refine hn.mono ?_; rintro e w4 ⟨cb, rfl, g1, g2⟩; have g3 := g2.size; have l2 : w.heap.size < w4.heap.size := Nat.lt_of_lt_of_le l1 g3; obtain ⟨hq4, z0, z1, z2, z3, z4⟩ := box5 (w := w3.drew) HQ.out g2; clear x0 x1 x2 x3 x4; have HQ4 := Lib.hid hq4; have G1 := Lib.hid g1; have G2 := Lib.hid g2; clear hq4 g1 g2)
    | (go_at_call 127; refine (items_new _).mono ?_; rintro e w5 ⟨rfl, rfl⟩)
    | (go_at_call 128; refine (notes_new _).mono ?_; rintro e w6 ⟨rfl, rfl⟩))
  all_goals (try go_wp2)
  all_goals (go_ret2)
  all_goals (exact ⟨_, cb, _, _, rfl, new_fin HB.out G1.out G2.out l1 c⟩)
end Go.Proofs.YtmakjfeepmiggaaGreat
