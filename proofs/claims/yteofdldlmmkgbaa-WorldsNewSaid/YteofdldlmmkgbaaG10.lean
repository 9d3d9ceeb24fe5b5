/-
  Texts of this prover, merged: Ref10, Frame, RefWorld.
-/
import Derived.Test.YteofdldlmmkgbaaG9
import Derived.Test.YteofdldlmmkgbaaG5
import Derived.Test.YteofdldlmmkgbaaG7
import Derived.Test.YteofdldlmmkgbaaG8
import Derived.Test.YteofdldlmmkgbaaG6
import Derived.Deep.RegionHeld3
/-
  The document's world, new, of whatever config.
-/
namespace Go.Proofs.Yteofdldlmmkgbaa
open Go.RowKit
set_option linter.unusedVariables false

theorem dec_f {p : Prop} [Decidable p] (h : ¬ p) : decide p = false := decide_eq_false h
set_option maxRecDepth 10000 in
set_option maxHeartbeats 2000000 in
theorem rmay_any (c : Conf) (w : World) : Calls Try.prog 12 #[.agg #[.int .i64 c.bits, .int .i64 c.budget, .int .i64 c.tries, .int .i64 c.quantum, .int .i64 c.way]] w fun e w' => e = .returned (.bool c.ok) ∧ Below w.heap.size w w' := by
  obtain ⟨b, g, t, q, y⟩ := c
  go_enter Try.func12, Try.ntmps12
  go_wp2
  all_goals go_ret
  all_goals (refine ⟨?_, below_alloc' _ _⟩)
  all_goals (first | (refine conf_false ?_; simp only [Conf.ok, Bool.and_eq_false_iff, decide_eq_false_iff_not] at *; omega) | (refine conf_true ?_; simp only [Conf.ok, Bool.and_eq_true, decide_eq_true_eq] at *; omega) | (refine congrArg (fun d => Ending.returned (.bool d)) (a₁ := decide (y ≤ 256)) ?_; rw [Bool.eq_iff_iff]; simp only [Conf.ok, Bool.and_eq_true, decide_eq_true_eq] at *; omega))

theorem rother_any (c : Conf) (w : World) : Calls Try.prog 10 #[.agg #[.int .i64 c.bits, .int .i64 c.budget, .int .i64 c.tries, .int .i64 c.quantum, .int .i64 c.way]] w fun e w' => e = .returned (.agg #[.int .i64 c.bits, .int .i64 c.budget, .int .i64 c.tries, .int .i64 c.quantum, .int .i64 c.way]) ∧ Below w.heap.size w w' := by
  go_enter Try.func10, Try.ntmps10
  go_wp2
  refine bodyPost_ret (v := .agg #[.int .i64 c.bits, .int .i64 c.budget, .int .i64 c.tries, .int .i64 c.quantum, .int .i64 c.way]) (by simp [results, Try.results10, go_sem]) rfl ⟨rfl, ?_⟩
  repeat (first | exact Below.refl _ _ | refine Below.setCell ?_ (by simp) _ | refine Below.alloc ?_ (by simp) _)

theorem heap_alloc_at (w : World) (o : Obj) {n : Nat} (h : n = w.heap.size) : (w.alloc o).heap[n]? = some o := by subst h; exact heap_alloc_new w o
theorem heap_alloc_old {w : World} {o x : Obj} {n : Nat} (h : w.heap[n]? = some x) : (w.alloc o).heap[n]? = some x := by
  have := (Array.getElem?_eq_some_iff.1 h).1
  rw [Below.heap_alloc _ _ _ this]; exact h
theorem heap_below {w w' : World} {x : Obj} {n : Nat} (hb : Below w.heap.size w w') (h : w.heap[n]? = some x) : w'.heap[n]? = some x := (hb.block n (Array.getElem?_eq_some_iff.1 h).1).trans h
theorem rwds_at {W : World} {b : Nat} {a v : Int} (ha : (Lit.int .u64 a).wf = true) (hv : (Lit.int .u64 v).wf = true) (h : W.heap[b]? = some (.cells #[.int .u64 a, .int .u64 v] 127 (0, 0))) : RWds W (some ⟨b, 0, none⟩) 1 [(a, v)] := by
  have k : ∀ o, W.cell? ⟨b, o, none⟩ = (#[.int .u64 a, .int .u64 v] : Array Value)[o]? := fun o => by unfold World.cell?; simp only; rw [h]; rfl
  refine ⟨by simp, by unfold maxLen; omega, fun p hp => ?_, .inr ⟨_, 0, rfl, fun i hi => ?_⟩⟩
  · simp only [List.mem_singleton] at hp; subst hp; exact ⟨ha, hv⟩
  · have : i = 0 := by simp at hi; omega
    subst this
    exact ⟨k 0, k 1⟩
theorem RCells.base {w : World} {base base' r : Nat} {lv : Value} {x : RS} (h : RCells w base r lv x) (hb : base' ≤ base) : RCells w base' r lv x := by
  refine ⟨h.hdr, Nat.le_trans hb h.lo, ⟨h.row.1, ?_⟩, h.wf⟩
  rcases h.row.2 with h2 | ⟨g, cap, cur, h3, h4, h5⟩
  · exact .inl h2
  · exact .inr ⟨g, cap, cur, h3, Nat.le_trans hb h4, h5⟩

/-- The config's cells. -/
structure FiveC (q : Nat) (c : Conf) (W : World) : Prop where
  hd : W.heap[q]? = some (.cells #[.int .i64 c.bits, .int .i64 c.budget, .int .i64 c.tries, .int .i64 c.quantum, .int .i64 c.way] 31 (0, 0))
theorem FiveC.cell {q : Nat} {c : Conf} {W : World} (h : FiveC q c W) : W.cell? ⟨q, 0, none⟩ = some (.int .i64 c.bits) ∧ W.cell? ⟨q, 1, none⟩ = some (.int .i64 c.budget) ∧ W.cell? ⟨q, 2, none⟩ = some (.int .i64 c.tries) ∧ W.cell? ⟨q, 3, none⟩ = some (.int .i64 c.quantum) ∧ W.cell? ⟨q, 4, none⟩ = some (.int .i64 c.way) := by
  have k : ∀ o, W.cell? ⟨q, o, none⟩ = (#[.int .i64 c.bits, .int .i64 c.budget, .int .i64 c.tries, .int .i64 c.quantum, .int .i64 c.way] : Array Value)[o]? := fun o => by unfold World.cell?; simp only; rw [h.hd]; rfl
  exact ⟨k 0, k 1, k 2, k 3, k 4⟩
abbrev Five (q : Nat) (c : Conf) (W : World) : Prop := W.cell? ⟨q, 0, none⟩ = some (.int .i64 c.bits) ∧ W.cell? ⟨q, 1, none⟩ = some (.int .i64 c.budget) ∧ W.cell? ⟨q, 2, none⟩ = some (.int .i64 c.tries) ∧ W.cell? ⟨q, 3, none⟩ = some (.int .i64 c.quantum) ∧ W.cell? ⟨q, 4, none⟩ = some (.int .i64 c.way)
theorem five_below {q : Nat} {c : Conf} {W W' : World} (hb : Below W.heap.size W W') (h : Five q c W) : Five q c W' := by
  obtain ⟨h0, h1, h2, h3, h4⟩ := h
  have k : ∀ o v, W.cell? ⟨q, o, none⟩ = some v → W'.cell? ⟨q, o, none⟩ = some v := fun o v hc => (hb.cell (World.block_lt_of_cell? _ _ hc)).trans hc
  exact ⟨k _ _ h0, k _ _ h1, k _ _ h2, k _ _ h3, k _ _ h4⟩
theorem five_alloc {q : Nat} {c : Conf} {W : World} {o : Obj} (h : Five q c W) : Five q c (W.alloc o) := five_below (below_alloc' W o) h

/-- A document's world is there. -/
structure RWld (w0 w : World) (rb cr rib rnb : Nat) (c : Conf) (x : RS) : Prop where
  blk : w.heap[rb]? = some (.cells (worldV cr rib rnb c tk0 (-1)).toArray 137 (0, 0))
  lo : w0.heap.size ≤ rb
  ref : ∃ lv, RCells w w0.heap.size cr lv x
  items : w.heap[rib]? = some (.cells #[.slice none 0 0] 131 (0, 0))
  ilo : w0.heap.size ≤ rib
  notes : w.heap[rnb]? = some (.cells #[.slice none 0 0] 135 (0, 0))
  nlo : w0.heap.size ≤ rnb

noncomputable def rnewCells (cr rib rnb : Nat) (c : Conf) : Array Value :=
  (((((((((Try.zeroCells137.setIfInBounds 0 (.pointer (some ⟨cr, 0, none⟩))).setIfInBounds 1 (.pointer (some ⟨rib, 0, none⟩))).setIfInBounds 2 (.pointer (some ⟨rnb, 0, none⟩))).setIfInBounds 3 (.int .i64 c.bits)).setIfInBounds
    4 (.int .i64 c.budget)).setIfInBounds 5 (.int .i64 c.tries)).setIfInBounds 6 (.int .i64 c.quantum)).setIfInBounds 7 (.int .i64 c.way)).setIfInBounds 72 (.int .i64 (-1)))
theorem rnew_cells (cr rib rnb : Nat) (c : Conf) : rnewCells cr rib rnb c = (worldV cr rib rnb c tk0 (-1)).toArray := by
  kernel_rfl
theorem rwld_fin {w W4 : World} {cr rib rnb n : Nat} {lv : Value} (c : Conf) (x : RS) (e : n = W4.heap.size) (hr : RCells W4 w.heap.size cr lv x) (hi : W4.heap[rib]? = some (.cells #[.slice none 0 0] 131 (0, 0))) (hil : w.heap.size ≤ rib)
    (hn : W4.heap[rnb]? = some (.cells #[.slice none 0 0] 135 (0, 0))) (hnl : w.heap.size ≤ rnb) (hb : Below w.heap.size w W4) :
    RWld w (W4.alloc (.cells (rnewCells cr rib rnb c) 137)) n cr rib rnb c x ∧ Below w.heap.size w (W4.alloc (.cells (rnewCells cr rib rnb c) 137)) := by
  subst e
  refine ⟨⟨?_, hb.size, ⟨lv, hr.keep (below_alloc' _ _)⟩, heap_alloc_old hi, hil, heap_alloc_old hn, hnl⟩, hb.alloc hb.size _⟩
  rw [← rnew_cells]; exact heap_alloc_new _ _
set_option maxRecDepth 10000 in
set_option maxHeartbeats 1000000 in
theorem rnew10_any (c : Conf) (hc : c.ok = true) (w : World) : Calls Try.prog 9 #[.agg #[.int .i64 c.bits, .int .i64 c.budget, .int .i64 c.tries, .int .i64 c.quantum, .int .i64 c.way]] w fun e w' => ∃ rb cr rib rnb, e = .returned (.tuple #[.pointer (some ⟨rb, 0, none⟩), .int .i64 0]) ∧ RWld w w' rb cr rib rnb c ⟨rfold [(2, c.bits)], 0, 0, 0, 0, 0⟩ ∧ Below w.heap.size w w' := by
  have hbw : IntKind.u64.wrap c.bits = c.bits := by simp only [Conf.ok, Bool.and_eq_true, decide_eq_true_eq] at hc; rw [IntKind.wrap_u64]; omega
  have hwf : (Lit.int .u64 c.bits).wf = true := by
    have hmin : IntKind.u64.min = 0 := rfl
    have hmax : IntKind.u64.max = 18446744073709551615 := rfl
    simp only [Conf.ok, Bool.and_eq_true, decide_eq_true_eq] at hc
    simp only [Lit.wf, Bool.and_eq_true, decide_eq_true_eq]; omega
  have hm := rmay_any c
  rw [hc] at hm
  have HW := Lib.hid hwf
  clear hwf hc
  go_enter Try.func9, Try.ntmps9
  have hq := heap_alloc_new w (.cells #[.int .i64 c.bits, .int .i64 c.budget, .int .i64 c.tries, .int .i64 c.quantum, .int .i64 c.way] 31)
  have hB0 := below_alloc' w (.cells #[.int .i64 c.bits, .int .i64 c.budget, .int .i64 c.tries, .int .i64 c.quantum, .int .i64 c.way] 31)
  go_wp2_with (go_at_call 12; refine (hm _).mono ?_; rintro e w1 ⟨rfl, b1⟩)
  have hq1 := heap_below b1 hq
  have hB1 : Below w.heap.size w w1 := hB0.trans (b1.mono hB0.size)
  have h0 : w1.drew.cell? ⟨w.heap.size, 0, none⟩ = some (.int .i64 c.bits) ∧ w1.drew.cell? ⟨w.heap.size, 1, none⟩ = some (.int .i64 c.budget) ∧ w1.drew.cell? ⟨w.heap.size, 2, none⟩ = some (.int .i64 c.tries) ∧ w1.drew.cell? ⟨w.heap.size, 3, none⟩ = some (.int .i64 c.quantum) ∧ w1.drew.cell? ⟨w.heap.size, 4, none⟩ = some (.int .i64 c.way) := FiveC.cell (W := w1.drew) ⟨hq1⟩
  have hs1 : w.heap.size ≤ w1.heap.size := hB1.size
  have HB := Lib.hid hB1
  clear hq hB0 b1 hq1 hB1 hm
  go_region_held3 (fun W => W.cell? ⟨w.heap.size, 0, none⟩ = some (.int .i64 c.bits) ∧ W.cell? ⟨w.heap.size, 1, none⟩ = some (.int .i64 c.budget) ∧ W.cell? ⟨w.heap.size, 2, none⟩ = some (.int .i64 c.tries) ∧ W.cell? ⟨w.heap.size, 3, none⟩ = some (.int .i64 c.quantum) ∧ W.cell? ⟨w.heap.size, 4, none⟩ = some (.int .i64 c.way)) (first | exact h0 | assumption | exact five_alloc ‹_› | exact five_below ‹_› ‹_›) (first
    | (go_at_call 55; refine (rnew_any _ _ _ [(2, c.bits)] (rwds_at (by decide) HW.out (by repeat (first | exact heap_alloc_at _ _ (by simp) | refine heap_alloc_old ?_))) (by simp)).mono ?_; rintro e w5 ⟨rfl, ⟨lv5, r5⟩, b5⟩; have hs5 := b5.size; (try simp only [World.size_alloc, World.size_drew] at hs5 r5)))
  all_goals (try go_wp2)
  all_goals go_ret2
  all_goals (refine ⟨_, _, _, _, rfl, rwld_fin (lv := lv5) c _ ?_ ?_ ?_ ?_ ?_ ?_ ?_⟩)
  all_goals (first
    | rfl
    | (simp; done)
    | (exact RCells.base (r5.keep (by repeat (first | exact Below.refl _ _ | refine Below.alloc ?_ (by simp) _))) (by first | omega | (simp only [World.size_alloc, World.size_drew]; omega)))
    | ((repeat (first | exact heap_alloc_at _ _ (by simp) | refine heap_alloc_old ?_ | refine heap_below b5 ?_)); done)
    | ((repeat (first | exact HB.out | refine Below.drew ?_ | refine Below.alloc ?_ (by first | omega | (simp only [World.size_alloc]; omega)) _ | refine Below.trans ?_ (b5.mono (by first | omega | (simp only [World.size_alloc, World.size_drew]; omega))))); done)
    | omega | (simp only [World.size_alloc, World.size_drew]; omega))
end Go.Proofs.Yteofdldlmmkgbaa

/-
  A world and the document's world, each by itself, with all that they have; of which types the blocks are that an operation turns.
-/
namespace Go.Proofs.Yteofdldlmmkgbaa
open Go.RowKit Go.Maps
set_option linter.unusedVariables false

/-- Types of the blocks that a world is made of; that the document's is made of. -/
def wTy (T : TypeId) : Bool := T == 167 || T == 212 || T == 42 || T == 157 || T == 158 || T == 160 || T == 197 || T == 75
def rTy (T : TypeId) : Bool := T == 137 || T == 199 || T == 127 || T == 131 || T == 61 || T == 135 || T == 143
def wrTy (T : TypeId) : Bool := wTy T || rTy T
/-- Of the old blocks only such of some types have turned, and maps only where it is said. -/
structure Fr (K : TypeId → Bool) (mp : Bool) (w w' : World) : Prop where
  size : w.heap.size ≤ w'.heap.size
  cells : ∀ (k : Nat) (cs : Array Value) (T : TypeId) (fr : Nat × Nat), w.heap[k]? = some (.cells cs T fr) → K T = false → w'.heap[k]? = some (.cells cs T fr)
  map : mp = false → ∀ (k : Nat) (es : Array MapEntry) (cl : Nat), w.heap[k]? = some (.map es cl) → w'.heap[k]? = some (.map es cl)
theorem Fr.refl (K : TypeId → Bool) (mp : Bool) (w : World) : Fr K mp w w := ⟨Nat.le_refl _, fun _ _ _ _ h _ => h, fun _ _ _ _ h => h⟩
theorem Fr.trans {K : TypeId → Bool} {mp : Bool} {a b c : World} (h : Fr K mp a b) (k : Fr K mp b c) : Fr K mp a c :=
  ⟨Nat.le_trans h.size k.size, fun i cs T fr hi hT => k.cells i cs T fr (h.cells i cs T fr hi hT) hT, fun hm i es cl hi => k.map hm i es cl (h.map hm i es cl hi)⟩
theorem Fr.mono {K K' : TypeId → Bool} {mp mp' : Bool} {a b : World} (h : Fr K mp a b) (hK : ∀ T, K' T = false → K T = false) (hm : mp' = false → mp = false) : Fr K' mp' a b :=
  ⟨h.size, fun i cs T fr hi hT => h.cells i cs T fr hi (hK T hT), fun h2 => h.map (hm h2)⟩
theorem below_fr {w w' : World} (h : Below w.heap.size w w') (K : TypeId → Bool) (mp : Bool) : Fr K mp w w' :=
  ⟨h.size, fun k cs T fr hk _ => (h.block k (Array.getElem?_eq_some_iff.1 hk).1).trans hk, fun _ k es cl hk => (h.block k (Array.getElem?_eq_some_iff.1 hk).1).trans hk⟩
theorem rest_fr {w w' : World} (h : Rest w w') (hs : w.heap.size ≤ w'.heap.size) : Fr wTy true w w' :=
  ⟨hs, fun k cs T fr hk hT => h k cs T fr hk (by unfold wTy at hT; simp only [Bool.or_eq_false_iff] at hT; exact hT.1.1.1.1.1.1.1) (by unfold wTy at hT; simp only [Bool.or_eq_false_iff] at hT; exact hT.1.1.1.1.1.1.2), fun h => by cases h⟩
theorem keeps_fr {S : Nat → Prop} {w w' : World} (h : Keeps S w w') (K : TypeId → Bool) (mp : Bool) (hs : ∀ k, S k → ∃ cs T fr, w.heap[k]? = some (.cells cs T fr) ∧ K T = true) : Fr K mp w w' := by
  refine ⟨h.size, fun k cs T fr hk hT => (h.block k (Array.getElem?_eq_some_iff.1 hk).1 fun c => ?_).trans hk, fun _ k es cl hk => (h.block k (Array.getElem?_eq_some_iff.1 hk).1 fun c => ?_).trans hk⟩
  · obtain ⟨cs2, T2, fr2, h2, h3⟩ := hs k c
    have := h2.symm.trans hk
    simp only [Option.some.injEq, Obj.cells.injEq] at this
    rw [this.2.1, hT] at h3; cases h3
  · obtain ⟨cs2, T2, fr2, h2, h3⟩ := hs k c
    have := h2.symm.trans hk
    cases this
theorem wr_of_w {w w' : World} (h : Fr wTy true w w') : Fr wrTy true w w' := h.mono (fun T hT => by unfold wrTy at hT; simp only [Bool.or_eq_false_iff] at hT; exact hT.1) (fun h => by cases h)
theorem wr_of_r {w w' : World} (h : Fr rTy false w w') : Fr wrTy true w w' := h.mono (fun T hT => by unfold wrTy at hT; simp only [Bool.or_eq_false_iff] at hT; exact hT.2) (fun h => by cases h)

theorem own_fr {K : TypeId → Bool} {mp : Bool} {w w' : World} {base e size n : Nat} {v : Value} {xs : List Value} (h : w.ownsRow base e size v n xs) (hf : Fr K mp w w') (he : K e = false) : w'.ownsRow base e size v n xs := by
  obtain ⟨h1, h2 | ⟨g, cap, cur, hv, hb1, hg, r⟩⟩ := h
  · exact ⟨h1, .inl h2⟩
  · exact ⟨h1, .inr ⟨g, cap, cur, hv, hb1, hf.cells _ _ _ _ hg he, r⟩⟩
theorem Arena.ty {w : World} {base b : Nat} {l : List Itm} {S : Nat → Prop} (h : Arena w base b l S) : ∀ k, S k → ∃ cs T, w.heap[k]? = some (.cells cs T (0, 0)) ∧ (T = 157 ∨ T = 158 ∨ T = 160) := by
  obtain ⟨ao, cap, ps, h, rfl⟩ := h
  rintro k (rfl | ⟨a, rfl, rfl⟩ | hk)
  · exact ⟨_, _, h.hdr, .inl rfl⟩
  · rcases h.own.2 with ⟨hn, _⟩ | ⟨g, c, cur, hv, hg, hh, r⟩
    · cases hn
    · simp only [Value.slice.injEq, Option.some.injEq] at hv
      rw [hv.1]
      exact ⟨_, _, hh, .inr (.inl rfl)⟩
  · obtain ⟨j, hj, rfl⟩ := List.mem_iff_getElem.1 hk
    obtain ⟨cs, h1, _⟩ := h.blk j hj
    exact ⟨_, _, h1, .inr (.inr rfl)⟩
theorem RArena.ty {w : World} {base b : Nat} {l : List Itm} {S : Nat → Prop} (h : RArena w base b l S) : ∀ k, S k → ∃ cs T, w.heap[k]? = some (.cells cs T (0, 0)) ∧ (T = 131 ∨ T = 61) := by
  obtain ⟨ao, cap, h, rfl⟩ := h
  rintro k (rfl | ⟨a, rfl, rfl⟩)
  · exact ⟨_, _, h.hdr, .inl rfl⟩
  · rcases h.own.2 with ⟨hn, _⟩ | ⟨g, c, cur, hv, hg, hh, r⟩
    · cases hn
    · simp only [Value.slice.injEq, Option.some.injEq] at hv
      rw [hv.1]
      exact ⟨_, _, hh, .inr rfl⟩
theorem Arena.fr {K : TypeId → Bool} {mp : Bool} {w w' : World} {base b : Nat} {l : List Itm} {S : Nat → Prop} (h : Arena w base b l S) (hf : Fr K mp w w') (h1 : K 157 = false) (h2 : K 158 = false) (h3 : K 160 = false) : Arena w' base b l S :=
  h.keep fun k hk => by
    obtain ⟨cs, T, he, hT⟩ := h.ty k hk
    rw [he]
    refine hf.cells _ _ _ _ he ?_
    rcases hT with rfl | rfl | rfl <;> assumption
theorem RArena.fr {K : TypeId → Bool} {mp : Bool} {w w' : World} {base b : Nat} {l : List Itm} {S : Nat → Prop} (h : RArena w base b l S) (hf : Fr K mp w w') (h1 : K 131 = false) (h2 : K 61 = false) : RArena w' base b l S :=
  h.keep fun k hk => by
    obtain ⟨cs, T, he, hT⟩ := h.ty k hk
    rw [he]
    refine hf.cells _ _ _ _ he ?_
    rcases hT with rfl | rfl <;> assumption
theorem Own.fr {K : TypeId → Bool} {w0 w w' : World} {b : Nat} {s : CS} (h : Own w0 w b s) (hf : Fr K false w w') (hB : Below w0.heap.size w0 w') (h1 : K 167 = false) (h2 : K 212 = false) : Own w0 w' b s := by
  obtain ⟨⟨S, hS⟩, _⟩ := h
  refine ⟨⟨S, hS.keep fun k hk => ?_⟩, hB⟩
  obtain ⟨mo, f, hA, rfl⟩ := hS
  rcases hk with rfl | hm | ⟨a, ha⟩
  · rw [hA.hdr]; exact hf.cells _ _ _ _ hA.hdr h1
  · obtain ⟨⟨D, ⟨es, cl, hb, _⟩, _⟩, _⟩ := hA.map k hm
    rw [hb]; exact hf.map rfl _ _ _ hb
  · have := (hA.ptr a k ha).1
    rw [this]; exact hf.cells _ _ _ _ this h2

/-- A note. -/
structure Nte where
  step : Int
  thread : Int
  kind : Int
  ref : Int
  bits : Int
  bucket : Int
  slot : Int
  value : Int
def nteC (q : IntKind) (n : Nte) : List Value := [.int .i64 n.step, .int .i64 n.thread, .int q n.kind, .int .i64 n.ref, .int .i64 n.bits, .int .i64 n.bucket, .int .i64 n.slot, .int .i64 n.value]
/-- A list of notes. -/
def NL (w : World) (base nb TL TN : Nat) (q : IntKind) (l : List Nte) : Prop := ∃ v, w.heap[nb]? = some (.cells #[v] TL (0, 0)) ∧ base ≤ nb ∧ w.ownsRow base TN 8 v l.length (l.flatMap (nteC q))
theorem NL.fr {K : TypeId → Bool} {mp : Bool} {w w' : World} {base nb TL TN : Nat} {q : IntKind} {l : List Nte} (h : NL w base nb TL TN q l) (hf : Fr K mp w w') (h1 : K TL = false) (h2 : K TN = false) : NL w' base nb TL TN q l := by
  obtain ⟨v, h3, h4, h5⟩ := h
  exact ⟨v, hf.cells _ _ _ _ h3 h1, h4, own_fr h5 hf h2⟩
theorem NL.nil {w : World} {base nb TL : Nat} (TN : Nat) (q : IntKind) (h : w.heap[nb]? = some (.cells #[.slice none 0 0] TL (0, 0))) (hb : base ≤ nb) : NL w base nb TL TN q [] := ⟨_, h, hb, World.ownsRow_nil _ _ _ _⟩

/-- The blocks of a world. -/
structure WB where
  wb : Nat
  cb : Nat
  ib : Nat
  nb : Nat
/-- What a world has besides its cells. -/
structure WV where
  c : Conf
  its : List Itm
  nts : List Nte
  tk : List Int
  hd : Int
def tkV (l : List Int) : List Value := l.map fun t => .int .u64 t
def WB.val (B : WB) (V : WV) : Array Value := (worldV B.cb B.ib B.nb V.c (tkV V.tk) V.hd).toArray

/-- The program's world. -/
structure WS (w0 w : World) (B : WB) (V : WV) (s : CS) : Prop where
  own : Own w0 w B.cb s
  blk : w.heap[B.wb]? = some (.cells (B.val V) 42 (0, 0))
  lo : w0.heap.size ≤ B.wb
  ar : ∃ S, Arena w w0.heap.size B.ib V.its S
  nt : NL w w0.heap.size B.nb 197 75 .u8 V.nts
  tkl : V.tk.length = 64
/-- The document's world. -/
structure RD (w0 w : World) (B : WB) (V : WV) (x : RS) : Prop where
  below : Below w0.heap.size w0 w
  ref : ∃ lv, RCells w w0.heap.size B.cb lv x
  blk : w.heap[B.wb]? = some (.cells (B.val V) 137 (0, 0))
  lo : w0.heap.size ≤ B.wb
  ar : ∃ S, RArena w w0.heap.size B.ib V.its S
  nt : NL w w0.heap.size B.nb 135 143 .i64 V.nts
  tkl : V.tk.length = 64

section
variable {w0 w w' : World} {B : WB} {V : WV} {s s' : CS} {x x' : RS}
theorem WS.below (h : WS w0 w B V s) : Below w0.heap.size w0 w := h.own.below
theorem WS.wld (h : WS w0 w B V s) : Wld w0 w B.wb B.cb V.c s := ⟨h.own, B.ib, B.nb, tkV V.tk, V.hd, h.blk⟩
theorem WS.fr {K : TypeId → Bool} (h : WS w0 w B V s) (hf : Fr K false w w') (hK : ∀ T, wTy T = true → K T = false) (hB : Below w0.heap.size w0 w') : WS w0 w' B V s := by
  obtain ⟨S, ha⟩ := h.ar
  exact ⟨h.own.fr hf hB (hK _ rfl) (hK _ rfl), hf.cells _ _ _ _ h.blk (hK _ rfl), h.lo, ⟨S, ha.fr hf (hK _ rfl) (hK _ rfl) (hK _ rfl)⟩, h.nt.fr hf (hK _ rfl) (hK _ rfl), h.tkl⟩
theorem WS.keep (h : WS w0 w B V s) (hb : Below w.heap.size w w') : WS w0 w' B V s :=
  h.fr (below_fr hb (fun _ => false) false) (fun _ _ => rfl) (h.below.trans (hb.mono h.below.size))
theorem w_not_r (T : TypeId) (h : wTy T = true) : rTy T = false := by
  unfold wTy at h
  simp only [Bool.or_eq_true, beq_iff_eq] at h
  rcases h with ((((((rfl | rfl) | rfl) | rfl) | rfl) | rfl) | rfl) | rfl <;> rfl
theorem r_not_w (T : TypeId) (h : rTy T = true) : wTy T = false := by
  cases hw : wTy T
  · rfl
  · rw [w_not_r T hw] at h; cases h
theorem WS.byr (h : WS w0 w B V s) (hf : Fr rTy false w w') (hB : Below w0.heap.size w0 w') : WS w0 w' B V s := h.fr hf w_not_r hB
/-- Behind an access. -/
theorem WS.acc (h : WS w0 w B V s) (ho : Own w0 w' B.cb s') (hr : Rest w w') (hs : w.heap.size ≤ w'.heap.size) : WS w0 w' B V s' ∧ Fr wTy true w w' := by
  obtain ⟨S, ha⟩ := h.ar
  have hf : Fr (fun T => T == 167 || T == 212) true w w' := ⟨hs, fun k cs T fr hk hT => by simp only [Bool.or_eq_false_iff] at hT; exact hr k cs T fr hk hT.1 hT.2, fun h => by cases h⟩
  exact ⟨⟨ho, hf.cells _ _ _ _ h.blk rfl, h.lo, ⟨S, ha.fr hf rfl rfl rfl⟩, h.nt.fr hf rfl rfl, h.tkl⟩, rest_fr hr hs⟩
theorem RD.fr {K : TypeId → Bool} {mp : Bool} (h : RD w0 w B V x) (hf : Fr K mp w w') (hK : ∀ T, rTy T = true → K T = false) (hB : Below w0.heap.size w0 w') : RD w0 w' B V x := by
  obtain ⟨S, ha⟩ := h.ar
  obtain ⟨lv, hr⟩ := h.ref
  exact ⟨hB, ⟨lv, hf.cells _ _ _ _ hr.hdr (hK _ rfl), hr.lo, own_fr hr.row hf (hK _ rfl), hr.wf⟩, hf.cells _ _ _ _ h.blk (hK _ rfl), h.lo, ⟨S, ha.fr hf (hK _ rfl) (hK _ rfl)⟩, h.nt.fr hf (hK _ rfl) (hK _ rfl), h.tkl⟩
theorem RD.keep (h : RD w0 w B V x) (hb : Below w.heap.size w w') : RD w0 w' B V x :=
  h.fr (below_fr hb (fun _ => false) false) (fun _ _ => rfl) (h.below.trans (hb.mono h.below.size))
theorem RD.byw (h : RD w0 w B V x) (hf : Fr wTy true w w') (hB : Below w0.heap.size w0 w') : RD w0 w' B V x := h.fr hf r_not_w hB
theorem RD.acc (h : RD w0 w B V x) (hr : ∃ lv, RCells w' w0.heap.size B.cb lv x') (hk : Keeps (· = B.cb) w w') : RD w0 w' B V x' ∧ Fr rTy false w w' := by
  obtain ⟨S, ha⟩ := h.ar
  obtain ⟨lv, hr0⟩ := h.ref
  have hf : Fr (fun T => T == 199) false w w' := keeps_fr hk _ _ fun k e => ⟨_, _, _, e ▸ hr0.hdr, rfl⟩
  refine ⟨⟨keeps_below hk h.below h.below.size fun k e => e ▸ hr0.lo, hr, hf.cells _ _ _ _ h.blk rfl, h.lo, ⟨S, ha.fr hf rfl rfl⟩, h.nt.fr hf rfl rfl, h.tkl⟩, hf.mono (fun T hT => ?_) id⟩
  unfold rTy at hT; simp only [Bool.or_eq_false_iff] at hT; exact hT.1.1.1.1.1.2

/-- A store into the world's own block. -/
theorem WS.set (h : WS w0 w B V s) (o : Nat) (v : Value) (V' : WV) (hv : (B.val V).setIfInBounds o v = B.val V') (hi : V'.its = V.its) (hn : V'.nts = V.nts) (ht : V'.tk.length = 64) :
    WS w0 (w.setCell ⟨B.wb, o, none⟩ v) B V' s ∧ Fr wTy true w (w.setCell ⟨B.wb, o, none⟩ v) := by
  obtain ⟨S, ha⟩ := h.ar
  have hk := setCell_keeps w B.wb o v
  have hB : Below w0.heap.size w0 (w.setCell ⟨B.wb, o, none⟩ v) := keeps_below hk h.below h.below.size fun k e => e ▸ h.lo
  have hf : Fr (fun T => T == 42) false w (w.setCell ⟨B.wb, o, none⟩ v) := keeps_fr hk _ _ fun k e => ⟨_, _, _, e ▸ h.blk, rfl⟩
  refine ⟨⟨h.own.fr hf hB rfl rfl, by rw [← hv]; exact setCell_same h.blk o v, h.lo, ⟨S, hi ▸ ha.fr hf rfl rfl rfl⟩, hn ▸ h.nt.fr hf rfl rfl, ht⟩, hf.mono (fun T hT => ?_) (fun h => by cases h)⟩
  unfold wTy at hT; simp only [Bool.or_eq_false_iff] at hT; exact hT.1.1.1.1.1.2
theorem RD.set (h : RD w0 w B V x) (o : Nat) (v : Value) (V' : WV) (hv : (B.val V).setIfInBounds o v = B.val V') (hi : V'.its = V.its) (hn : V'.nts = V.nts) (ht : V'.tk.length = 64) :
    RD w0 (w.setCell ⟨B.wb, o, none⟩ v) B V' x ∧ Fr rTy false w (w.setCell ⟨B.wb, o, none⟩ v) := by
  obtain ⟨S, ha⟩ := h.ar
  obtain ⟨lv, hr⟩ := h.ref
  have hk := setCell_keeps w B.wb o v
  have hB : Below w0.heap.size w0 (w.setCell ⟨B.wb, o, none⟩ v) := keeps_below hk h.below h.below.size fun k e => e ▸ h.lo
  have hf : Fr (fun T => T == 137) false w (w.setCell ⟨B.wb, o, none⟩ v) := keeps_fr hk _ _ fun k e => ⟨_, _, _, e ▸ h.blk, rfl⟩
  refine ⟨⟨hB, ⟨lv, hf.cells _ _ _ _ hr.hdr rfl, hr.lo, own_fr hr.row hf rfl, hr.wf⟩, by rw [← hv]; exact setCell_same h.blk o v, h.lo, ⟨S, hi ▸ ha.fr hf rfl rfl⟩, hn ▸ h.nt.fr hf rfl rfl, ht⟩, hf.mono (fun T hT => ?_) id⟩
  unfold rTy at hT; simp only [Bool.or_eq_false_iff] at hT; exact hT.1.1.1.1.1.1
theorem val_hd (B : WB) (V : WV) (ht : V.tk.length = 64) (h : Int) : (B.val V).setIfInBounds 72 (.int .i64 h) = B.val { V with hd := h } := by
  unfold WB.val worldV
  have e : ([Value.pointer (some ⟨B.cb, 0, none⟩), .pointer (some ⟨B.ib, 0, none⟩), .pointer (some ⟨B.nb, 0, none⟩)] ++ V.c.cells ++ tkV V.tk).length = 72 := by simp [Conf.cells, tkV, ht]
  rw [List.setIfInBounds_toArray, List.set_append_right _ _ (by omega), e]
  rfl
theorem val_tk (B : WB) (V : WV) (ht : V.tk.length = 64) (t : Nat) (htt : t < 64) (v : Int) : (B.val V).setIfInBounds (8 + t) (.int .u64 v) = B.val { V with tk := V.tk.set t v } := by
  unfold WB.val worldV
  have e : ([Value.pointer (some ⟨B.cb, 0, none⟩), .pointer (some ⟨B.ib, 0, none⟩), .pointer (some ⟨B.nb, 0, none⟩)] ++ V.c.cells).length = 8 := by simp [Conf.cells]
  rw [List.setIfInBounds_toArray, List.append_assoc, List.set_append_right _ _ (by omega), e, show 8 + t - 8 = t by omega, List.set_append_left _ _ (by simp [tkV, ht, htt])]
  simp [tkV, List.map_set]
theorem WS.cell (h : WS w0 w B V s) (o : Nat) : w.cell? ⟨B.wb, o, none⟩ = (B.val V)[o]? := by unfold World.cell?; simp only; rw [h.blk]; rfl
theorem RD.cell (h : RD w0 w B V x) (o : Nat) : w.cell? ⟨B.wb, o, none⟩ = (B.val V)[o]? := by unfold World.cell?; simp only; rw [h.blk]; rfl
theorem val_at (B : WB) (V : WV) (ht : V.tk.length = 64) : (B.val V)[0]? = some (.pointer (some ⟨B.cb, 0, none⟩)) ∧ (B.val V)[1]? = some (.pointer (some ⟨B.ib, 0, none⟩)) ∧ (B.val V)[2]? = some (.pointer (some ⟨B.nb, 0, none⟩)) ∧
    (B.val V)[3]? = some (.int .i64 V.c.bits) ∧ (B.val V)[4]? = some (.int .i64 V.c.budget) ∧ (B.val V)[72]? = some (.int .i64 V.hd) := by
  refine ⟨rfl, rfl, rfl, rfl, rfl, ?_⟩
  unfold WB.val worldV
  have e : ([Value.pointer (some ⟨B.cb, 0, none⟩), .pointer (some ⟨B.ib, 0, none⟩), .pointer (some ⟨B.nb, 0, none⟩)] ++ V.c.cells ++ tkV V.tk).length = 72 := by simp [Conf.cells, tkV, ht]
  rw [List.getElem?_toArray, List.getElem?_append_right (by omega), e]
  rfl
theorem val_tkat (B : WB) (V : WV) (ht : V.tk.length = 64) (t : Nat) (htt : t < 64) : (B.val V)[8 + t]? = some (.int .u64 (V.tk.getD t 0)) := by
  unfold WB.val worldV
  have e : ([Value.pointer (some ⟨B.cb, 0, none⟩), .pointer (some ⟨B.ib, 0, none⟩), .pointer (some ⟨B.nb, 0, none⟩)] ++ V.c.cells).length = 8 := by simp [Conf.cells]
  rw [List.getElem?_toArray, List.append_assoc, List.getElem?_append_right (by omega), e, show 8 + t - 8 = t by omega, List.getElem?_append_left (by simp [tkV, ht, htt])]
  simp [tkV, show t < V.tk.length by omega]
end

/-- Both worlds; they say the same. -/
structure Pr (w0 w : World) (B R : WB) (V : WV) (s : CS) (x : RS) : Prop where
  ws : WS w0 w B V s
  rd : RD w0 w R V x
  al : Alike s x
theorem Pr.keep {w0 w w' : World} {B R : WB} {V : WV} {s : CS} {x : RS} (h : Pr w0 w B R V s x) (hb : Below w.heap.size w w') : Pr w0 w' B R V s x := ⟨h.ws.keep hb, h.rd.keep hb, h.al⟩
end Go.Proofs.Yteofdldlmmkgbaa

/-
  What is done in the document's world.
-/
namespace Go.Proofs.Yteofdldlmmkgbaa
open Go.RowKit Go.Maps
set_option linter.unusedVariables false

def RS.room (x : RS) : Prop := x.l.length ≤ 100000 ∧ x.cnt ≤ 1000000
theorem RD.lv {w0 w : World} {B : WB} {V : WV} {x : RS} (h : RD w0 w B V x) : w0.heap.size ≤ w.heap.size := h.below.size
theorem RD.c0 {w0 w : World} {B : WB} {V : WV} {x : RS} (h : RD w0 w B V x) : w.cell? ⟨B.wb, 0, none⟩ = some (.pointer (some ⟨B.cb, 0, none⟩)) := (h.cell 0).trans (val_at B V h.tkl).1

section
variable {w0 w : World} {B : WB} {V : WV} {x : RS} (h : RD w0 w B V x) (hr : x.room) (a : Int) (ha : (Lit.int .u64 a).wf = true)
include h hr ha
theorem rwstore (v : Int) (hv : (Lit.int .u64 v).wf = true) : Calls Try.prog 84 #[.pointer (some ⟨B.wb, 0, none⟩), .int .u64 a, .int .u64 v] w fun e w' => e = .returned (.int .u64 (rlook x.l a)) ∧ RD w0 w' B V (x.acc 2 a v) ∧ Fr rTy false w w' := by
  have c0 := h.c0
  obtain ⟨lv, hq⟩ := h.ref
  have hc := rstore_any hq hr.1 hr.2 h.lv a ha v hv
  have H := Lib.hid h
  clear h hq hr ha hv
  go_enter Try.func84, Try.ntmps84
  go_wp2_with (go_at_call 123; refine hc.mono ?_; rintro e w1 ⟨rfl, r1, k1⟩)
  go_ret
  exact ⟨rfl, H.out.acc r1 k1⟩
theorem rwcas (u v : Int) (hv : (Lit.int .u64 v).wf = true) : Calls Try.prog 137 #[.pointer (some ⟨B.wb, 0, none⟩), .int .u64 a, .int .u64 u, .int .u64 v] w fun e w' => e = .returned (.tuple #[.int .u64 (rlook x.l a), .bool (rlook x.l a == u)]) ∧
    RD w0 w' B V (x.acc 3 a (if rlook x.l a = u then v else rlook x.l a)) ∧ Fr rTy false w w' := by
  have c0 := h.c0
  obtain ⟨lv, hq⟩ := h.ref
  have hc := rcas_any hq hr.1 hr.2 h.lv a ha u v hv
  have H := Lib.hid h
  clear h hq hr ha hv
  generalize (if rlook x.l a = u then v else rlook x.l a) = i at hc ⊢
  go_enter Try.func137, Try.ntmps137
  go_wp2_with (go_at_call 150; refine hc.mono ?_; rintro e w1 ⟨rfl, r1, k1⟩)
  go_ret2
  exact ⟨rfl, H.out.acc r1 k1⟩
omit hr ha in
theorem rwpeek : Calls Try.prog 63 #[.pointer (some ⟨B.wb, 0, none⟩), .int .u64 a] w fun e w' => e = .returned (.int .u64 (rlook x.l a)) ∧ w' = w := by
  have c0 := h.c0
  obtain ⟨lv, hq⟩ := h.ref
  have hc := rpeek_any w _ _ _ _ hq a
  clear h hq
  go_enter Try.func63, Try.ntmps63
  go_wp2_with (go_at_call 102; refine hc.mono ?_; rintro e w1 ⟨rfl, rfl⟩)
  go_ret
  exact ⟨rfl, rfl⟩
omit hr ha in
theorem rwsteps : Calls Try.prog 100 #[.pointer (some ⟨B.wb, 0, none⟩)] w fun e w' => e = .returned (.int .i64 x.cnt) ∧ w' = w := by
  have c0 := h.c0
  obtain ⟨lv, hq⟩ := h.ref
  have c1 : w.cell? ⟨B.cb, 1, none⟩ = some (.int .i64 x.cnt) := hq.cell 1
  clear h hq
  go_enter Try.func100, Try.ntmps100
  go_wp2
  go_ret
  exact ⟨rfl, rfl⟩
end

/-- The document's tick of a word. -/
theorem rtick_any (y : Int) (hy : (Lit.int .u64 y).wf = true) (w : World) : Calls Try.prog 138 #[.int .u64 y] w fun e w' => e = .returned (.int .u64 (eTick y)) ∧ w' = w := by
  have hb : 0 ≤ y ∧ y < 18446744073709551616 := by
    have hmin : IntKind.u64.min = 0 := rfl
    have hmax : IntKind.u64.max = 18446744073709551615 := rfl
    simp only [Lit.wf, Bool.and_eq_true, decide_eq_true_eq] at hy; omega
  have b0 : 0 ≤ eNow y ∧ eNow y < 16777216 := by unfold eNow; omega
  have b1 : 0 ≤ eAt y ∧ eAt y < 16777216 := by unfold eAt; omega
  have b2 : 0 ≤ eGen y ∧ eGen y < 65536 := by unfold eGen; omega
  have g0 : y / 16777216 / 16777216 = eGen y := by unfold eGen; omega
  have h1 : ∀ w, Calls Try.prog 151 #[.int .u64 y] w fun e w' => e = .returned (.int .i64 (eNow y)) ∧ w' = w := fun w => by
    have e0 : y % 16777216 = eNow y := rfl
    have e1 : wrap64 (eNow y) = eNow y := IntWalk.wrap64_in _ (by omega)
    generalize eNow y = n at *
    clear g0 b1 b2
    go_enter Try.func151, Try.ntmps151
    go_wp2
    go_ret
    exact ⟨rfl, rfl⟩
  have h2 : ∀ w, Calls Try.prog 152 #[.int .u64 y] w fun e w' => e = .returned (.int .i64 (eAt y)) ∧ w' = w := fun w => by
    have e0 : y / 16777216 % 16777216 = eAt y := rfl
    have e1 : wrap64 (eAt y) = eAt y := IntWalk.wrap64_in _ (by omega)
    generalize eAt y = n at *
    clear g0 b0 b2 h1
    go_enter Try.func152, Try.ntmps152
    go_wp2
    go_ret
    exact ⟨rfl, rfl⟩
  have h3 : ∀ w, Calls Try.prog 153 #[.int .u64 y] w fun e w' => e = .returned (.int .i64 (eGen y)) ∧ w' = w := fun w => by
    have e1 : wrap64 (eGen y) = eGen y := IntWalk.wrap64_in _ (by omega)
    generalize eGen y = n at *
    clear b0 b1 h1 h2
    go_enter Try.func153, Try.ntmps153
    go_wp2
    go_ret
    exact ⟨rfl, rfl⟩
  have h4 : ∀ n a g, (0 ≤ n ∧ n < 16777216) → (0 ≤ a ∧ a < 16777216) → (0 ≤ g ∧ g < 65536) → ∀ w, Calls Try.prog 154 #[.int .i64 n, .int .i64 a, .int .i64 g] w fun e w' => e = .returned (.int .u64 (eWord n a g)) ∧ w' = w := fun n a g hn ha hg w => by
    have e1 : (g * 16777216 + a) * 16777216 + n = eWord n a g := by unfold eWord; omega
    go_enter Try.func154, Try.ntmps154
    go_wp2
    go_ret
    exact ⟨ret_u64 (by rw [← e1]; omega), rfl⟩
  unfold eTick eNext
  clear hy g0 hb
  generalize eNow y = n at *
  generalize eAt y = a at *
  generalize eGen y = g at *
  go_enter Try.func138, Try.ntmps138
  go_wp2_with (first
    | (go_at_call 151; refine (h1 _).mono ?_; rintro e w' ⟨rfl, rfl⟩)
    | (go_at_call 152; refine (h2 _).mono ?_; rintro e w' ⟨rfl, rfl⟩)
    | (go_at_call 153; refine (h3 _).mono ?_; rintro e w' ⟨rfl, rfl⟩)
    | (go_at_call 154; refine (h4 _ _ _ (by omega) (by omega) (by omega) _).mono ?_; rintro e w' ⟨rfl, rfl⟩))
  all_goals go_ret
  all_goals (refine ⟨ret_u64 ?_, rfl⟩)
  all_goals (repeat' (split))
  all_goals (first | rfl | (exfalso; omega) | (unfold eWord; omega))

theorem rwtick {w0 w : World} {B : WB} {V : WV} {x : RS} (h : RD w0 w B V x) (hr : x.room) : Calls Try.prog 112 #[.pointer (some ⟨B.wb, 0, none⟩)] w fun e w' => e = .returned (.tuple #[]) ∧ RD w0 w' B V (x.acc 3 8 (eTick (rlook x.l 8))) ∧ Fr rTy false w w' := by
  have hv : (Lit.int .u64 (rlook x.l 8)).wf = true := by obtain ⟨lv, hq⟩ := h.ref; exact rlook_wf hq 8
  have hp := rwpeek h 8
  have ht := rtick_any _ hv
  have hc := rwcas h hr 8 (by decide) (rlook x.l 8) (eTick (rlook x.l 8)) (etick_wf _)
  rw [if_pos rfl] at hc
  clear h hr hv
  generalize rlook x.l 8 = y at *
  go_enter Try.func112, Try.ntmps112
  go_wp2_with (first
    | (go_at_call 63; refine hp.mono ?_; rintro e w1 ⟨rfl, hw⟩; obtain rfl := hw.symm; clear hp)
    | (go_at_call 138; refine (ht _).mono ?_; rintro e w1 ⟨rfl, hw⟩; obtain rfl := hw.symm; clear ht)
    | (go_at_call 137; refine hc.mono ?_; rintro e w2 ⟨rfl, h2, f2⟩))
  go_end0
  exact ⟨rfl, h2, f2⟩
end Go.Proofs.Yteofdldlmmkgbaa
