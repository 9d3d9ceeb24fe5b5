/-
  The document's world, new, of whatever config.
-/
import Derived.Test.YtmakjfeepmiggaaGreatRefNew
import Derived.Test.YtmakjfeepmiggaaGreatConf
import Derived.Test.YtmakjfeepmiggaaGreatWorldNew
import Derived.Deep.RegionHeld3
namespace Go.Proofs.YtmakjfeepmiggaaGreat
open Go.RowKit
set_option linter.unusedVariables false

theorem dec_f {p : Prop} [Decidable p] (h : ¬ p) : decide p = false := decide_eq_false h
set_option maxRecDepth 10000 in
set_option maxHeartbeats 2000000 in
theorem rmay_any (c : Conf) (w : World) : Calls Tryz.prog 44 #[.agg #[.int .i64 c.bits, .int .i64 c.budget, .int .i64 c.tries, .int .i64 c.quantum, .int .i64 c.way]] w fun e w' => e = .returned (.bool c.ok) ∧ Below w.heap.size w w' := by
  obtain ⟨b, g, t, q, y⟩ := c
  go_enter Tryz.func44, Tryz.ntmps44
  go_wp2
  all_goals go_ret
  all_goals (refine ⟨?_, below_alloc' _ _⟩)
  all_goals (first | (refine conf_false ?_; simp only [Conf.ok, Bool.and_eq_false_iff, decide_eq_false_iff_not] at *; omega) | (refine conf_true ?_; simp only [Conf.ok, Bool.and_eq_true, decide_eq_true_eq] at *; omega) | (refine congrArg (fun d => Ending.returned (.bool d)) (a₁ := decide (y ≤ 256)) ?_; rw [Bool.eq_iff_iff]; simp only [Conf.ok, Bool.and_eq_true, decide_eq_true_eq] at *; omega))

theorem rother_any (c : Conf) (w : World) : Calls Tryz.prog 45 #[.agg #[.int .i64 c.bits, .int .i64 c.budget, .int .i64 c.tries, .int .i64 c.quantum, .int .i64 c.way]] w fun e w' => e = .returned (.agg #[.int .i64 c.bits, .int .i64 c.budget, .int .i64 c.tries, .int .i64 c.quantum, .int .i64 c.way]) ∧ Below w.heap.size w w' := by
  go_enter Tryz.func45, Tryz.ntmps45
  go_wp2
  refine bodyPost_ret (v := .agg #[.int .i64 c.bits, .int .i64 c.budget, .int .i64 c.tries, .int .i64 c.quantum, .int .i64 c.way]) (by simp [results, Tryz.results45, go_sem]) rfl ⟨rfl, ?_⟩
  repeat (first | exact Below.refl _ _ | refine Below.setCell ?_ (by simp) _ | refine Below.alloc ?_ (by simp) _)

theorem heap_alloc_at (w : World) (o : Obj) {n : Nat} (h : n = w.heap.size) : (w.alloc o).heap[n]? = some o := by subst h; exact heap_alloc_new w o
theorem heap_alloc_old {w : World} {o x : Obj} {n : Nat} (h : w.heap[n]? = some x) : (w.alloc o).heap[n]? = some x := by
  have := (Array.getElem?_eq_some_iff.1 h).1
  rw [Below.heap_alloc _ _ _ this]; exact h
theorem heap_below {w w' : World} {x : Obj} {n : Nat} (hb : Below w.heap.size w w') (h : w.heap[n]? = some x) : w'.heap[n]? = some x := (hb.block n (Array.getElem?_eq_some_iff.1 h).1).trans h
theorem rwds_at {W : World} {b : Nat} {a v : Int} (ha : (Lit.int .u64 a).wf = true) (hv : (Lit.int .u64 v).wf = true) (h : W.heap[b]? = some (.cells #[.int .u64 a, .int .u64 v] 221 (0, 0))) : RWds W (some ⟨b, 0, none⟩) 1 [(a, v)] := by
  have k : ∀ o, W.cell? ⟨b, o, none⟩ = (#[.int .u64 a, .int .u64 v] : Array Value)[o]? := fun o => by unfold World.cell?; simp only; rw [h]; rfl
  refine ⟨by simp, by unfold maxLen; omega, fun p hp => ?_, .inr ⟨_, 0, rfl, fun i hi => ?_⟩⟩
  · simp only [List.mem_singleton] at hp; subst hp; exact ⟨ha, hv⟩
  · have : i = 0 := by simp at hi; omega
    subst this
    exact ⟨k 0, k 1⟩
theorem RCells.base {w : World} {base base' r : Nat} {lv : Value} {x : RS} (h : RCells w base r lv x) (hb : base' ≤ base) : RCells w base' r lv x := by
  refine ⟨h.hdr, Nat.le_trans hb h.lo, ⟨h.row.1, ?_⟩, h.wf⟩
  rcases h.row.2 with h2 | ⟨g, cap, cur, h3, h4, h5⟩
  · exact .inl h2
  · exact .inr ⟨g, cap, cur, h3, Nat.le_trans hb h4, h5⟩

/-- The config's cells. -/
structure FiveC (q : Nat) (c : Conf) (W : World) : Prop where
  hd : W.heap[q]? = some (.cells #[.int .i64 c.bits, .int .i64 c.budget, .int .i64 c.tries, .int .i64 c.quantum, .int .i64 c.way] 122 (0, 0))
theorem FiveC.cell {q : Nat} {c : Conf} {W : World} (h : FiveC q c W) : W.cell? ⟨q, 0, none⟩ = some (.int .i64 c.bits) ∧ W.cell? ⟨q, 1, none⟩ = some (.int .i64 c.budget) ∧ W.cell? ⟨q, 2, none⟩ = some (.int .i64 c.tries) ∧ W.cell? ⟨q, 3, none⟩ = some (.int .i64 c.quantum) ∧ W.cell? ⟨q, 4, none⟩ = some (.int .i64 c.way) := by
  have k : ∀ o, W.cell? ⟨q, o, none⟩ = (#[.int .i64 c.bits, .int .i64 c.budget, .int .i64 c.tries, .int .i64 c.quantum, .int .i64 c.way] : Array Value)[o]? := fun o => by unfold World.cell?; simp only; rw [h.hd]; rfl
  exact ⟨k 0, k 1, k 2, k 3, k 4⟩
abbrev Five (q : Nat) (c : Conf) (W : World) : Prop := W.cell? ⟨q, 0, none⟩ = some (.int .i64 c.bits) ∧ W.cell? ⟨q, 1, none⟩ = some (.int .i64 c.budget) ∧ W.cell? ⟨q, 2, none⟩ = some (.int .i64 c.tries) ∧ W.cell? ⟨q, 3, none⟩ = some (.int .i64 c.quantum) ∧ W.cell? ⟨q, 4, none⟩ = some (.int .i64 c.way)
theorem five_below {q : Nat} {c : Conf} {W W' : World} (hb : Below W.heap.size W W') (h : Five q c W) : Five q c W' := by
  obtain ⟨h0, h1, h2, h3, h4⟩ := h
  have k : ∀ o v, W.cell? ⟨q, o, none⟩ = some v → W'.cell? ⟨q, o, none⟩ = some v := fun o v hc => (hb.cell (World.block_lt_of_cell? _ _ hc)).trans hc
  exact ⟨k _ _ h0, k _ _ h1, k _ _ h2, k _ _ h3, k _ _ h4⟩
theorem five_alloc {q : Nat} {c : Conf} {W : World} {o : Obj} (h : Five q c W) : Five q c (W.alloc o) := five_below (below_alloc' W o) h

/-- A document's world is there. -/
structure RWld (w0 w : World) (rb cr rib rnb : Nat) (c : Conf) (x : RS) : Prop where
  blk : w.heap[rb]? = some (.cells (worldV cr rib rnb c tk0 (-1)).toArray 160 (0, 0))
  lo : w0.heap.size ≤ rb
  ref : ∃ lv, RCells w w0.heap.size cr lv x
  items : w.heap[rib]? = some (.cells #[.slice none 0 0] 223 (0, 0))
  ilo : w0.heap.size ≤ rib
  notes : w.heap[rnb]? = some (.cells #[.slice none 0 0] 163 (0, 0))
  nlo : w0.heap.size ≤ rnb

noncomputable def rnewCells (cr rib rnb : Nat) (c : Conf) : Array Value :=
  (((((((((Tryz.zeroCells160.setIfInBounds 0 (.pointer (some ⟨cr, 0, none⟩))).setIfInBounds 1 (.pointer (some ⟨rib, 0, none⟩))).setIfInBounds 2 (.pointer (some ⟨rnb, 0, none⟩))).setIfInBounds 3 (.int .i64 c.bits)).setIfInBounds
    4 (.int .i64 c.budget)).setIfInBounds 5 (.int .i64 c.tries)).setIfInBounds 6 (.int .i64 c.quantum)).setIfInBounds 7 (.int .i64 c.way)).setIfInBounds 72 (.int .i64 (-1)))
theorem rnew_cells (cr rib rnb : Nat) (c : Conf) : rnewCells cr rib rnb c = (worldV cr rib rnb c tk0 (-1)).toArray := by
  kernel_rfl
theorem rwld_fin {w W4 : World} {cr rib rnb n : Nat} {lv : Value} (c : Conf) (x : RS) (e : n = W4.heap.size) (hr : RCells W4 w.heap.size cr lv x) (hi : W4.heap[rib]? = some (.cells #[.slice none 0 0] 223 (0, 0))) (hil : w.heap.size ≤ rib)
    (hn : W4.heap[rnb]? = some (.cells #[.slice none 0 0] 163 (0, 0))) (hnl : w.heap.size ≤ rnb) (hb : Below w.heap.size w W4) :
    RWld w (W4.alloc (.cells (rnewCells cr rib rnb c) 160)) n cr rib rnb c x ∧ Below w.heap.size w (W4.alloc (.cells (rnewCells cr rib rnb c) 160)) := by
  subst e
  refine ⟨⟨?_, hb.size, ⟨lv, hr.keep (below_alloc' _ _)⟩, heap_alloc_old hi, hil, heap_alloc_old hn, hnl⟩, hb.alloc hb.size _⟩
  rw [← rnew_cells]; exact heap_alloc_new _ _
set_option maxRecDepth 10000 in
set_option maxHeartbeats 1000000 in
theorem rnew10_any (c : Conf) (hc : c.ok = true) (w : World) : Calls Tryz.prog 46 #[.agg #[.int .i64 c.bits, .int .i64 c.budget, .int .i64 c.tries, .int .i64 c.quantum, .int .i64 c.way]] w fun e w' => ∃ rb cr rib rnb, e = .returned (.tuple #[.pointer (some ⟨rb, 0, none⟩), .int .i64 0]) ∧ RWld w w' rb cr rib rnb c ⟨rfold [(2, c.bits)], 0, 0, 0, 0, 0⟩ ∧ Below w.heap.size w w' := by
  have hbw : IntKind.u64.wrap c.bits = c.bits := by simp only [Conf.ok, Bool.and_eq_true, decide_eq_true_eq] at hc; rw [IntKind.wrap_u64]; omega
  have hwf : (Lit.int .u64 c.bits).wf = true := by
    have hmin : IntKind.u64.min = 0 := rfl
    have hmax : IntKind.u64.max = 18446744073709551615 := rfl
    simp only [Conf.ok, Bool.and_eq_true, decide_eq_true_eq] at hc
    simp only [Lit.wf, Bool.and_eq_true, decide_eq_true_eq]; omega
  have hm := rmay_any c
  rw [hc] at hm
  have HW := Lib.hid hwf
  clear hwf hc
  go_enter Tryz.func46, Tryz.ntmps46
  have hq := heap_alloc_new w (.cells #[.int .i64 c.bits, .int .i64 c.budget, .int .i64 c.tries, .int .i64 c.quantum, .int .i64 c.way] 122)
  have hB0 := below_alloc' w (.cells #[.int .i64 c.bits, .int .i64 c.budget, .int .i64 c.tries, .int .i64 c.quantum, .int .i64 c.way] 122)
  go_wp2_with (go_at_call 44; refine (hm _).mono ?_; rintro e w1 ⟨rfl, b1⟩)
  have hq1 := heap_below b1 hq
  have hB1 : Below w.heap.size w w1 := hB0.trans (b1.mono hB0.size)
  have h0 : w1.drew.cell? ⟨w.heap.size, 0, none⟩ = some (.int .i64 c.bits) ∧ w1.drew.cell? ⟨w.heap.size, 1, none⟩ = some (.int .i64 c.budget) ∧ w1.drew.cell? ⟨w.heap.size, 2, none⟩ = some (.int .i64 c.tries) ∧ w1.drew.cell? ⟨w.heap.size, 3, none⟩ = some (.int .i64 c.quantum) ∧ w1.drew.cell? ⟨w.heap.size, 4, none⟩ = some (.int .i64 c.way) := FiveC.cell (W := w1.drew) ⟨hq1⟩
  have hs1 : w.heap.size ≤ w1.heap.size := hB1.size
  have HB := Lib.hid hB1
  clear hq hB0 b1 hq1 hB1 hm
  go_region_held3 (fun W => W.cell? ⟨w.heap.size, 0, none⟩ = some (.int .i64 c.bits) ∧ W.cell? ⟨w.heap.size, 1, none⟩ = some (.int .i64 c.budget) ∧ W.cell? ⟨w.heap.size, 2, none⟩ = some (.int .i64 c.tries) ∧ W.cell? ⟨w.heap.size, 3, none⟩ = some (.int .i64 c.quantum) ∧ W.cell? ⟨w.heap.size, 4, none⟩ = some (.int .i64 c.way)) (first | exact h0 | assumption | exact five_alloc ‹_› | exact five_below ‹_› ‹_›) (first
    | (go_at_call 123; refine (rnew_any _ _ _ [(2, c.bits)] (rwds_at (by decide) HW.out (by repeat (first | exact heap_alloc_at _ _ (by simp) | refine heap_alloc_old ?_))) (by simp)).mono ?_; rintro e w5 ⟨rfl, ⟨lv5, r5⟩, b5⟩; have hs5 := b5.size; (try simp only [World.size_alloc, World.size_drew] at hs5 r5)))
  all_goals (try go_wp2)
  all_goals go_ret2
  all_goals (refine ⟨_, _, _, _, rfl, rwld_fin (lv := lv5) c _ ?_ ?_ ?_ ?_ ?_ ?_ ?_⟩)
  all_goals (first
    | rfl
    | (simp; done)
    | (exact RCells.base (r5.keep (by repeat (first | exact Below.refl _ _ | refine Below.alloc ?_ (by simp) _))) (by first | omega | (simp only [World.size_alloc, World.size_drew]; omega)))
    | ((repeat (first | exact heap_alloc_at _ _ (by simp) | refine heap_alloc_old ?_ | refine heap_below b5 ?_)); done)
    | ((repeat (first | exact HB.out | refine Below.drew ?_ | refine Below.alloc ?_ (by first | omega | (simp only [World.size_alloc]; omega)) _ | refine Below.trans ?_ (b5.mono (by first | omega | (simp only [World.size_alloc, World.size_drew]; omega))))); done)
    | omega | (simp only [World.size_alloc, World.size_drew]; omega))
end Go.Proofs.YtmakjfeepmiggaaGreat
