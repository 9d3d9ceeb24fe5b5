/-
  Texts of this prover, merged: Grows, GrowDo, GrowLives, Find, FindTab, FindTags, FindItem, FindStep, FindRun.
-/
import Derived.Test.YtmagpbbjjkmbpaaGreatP7
import Derived.Test.YtmagpbbjjkmbpaaGreatP1
import Derived.Test.YtmagpbbjjkmbpaaGreatBegin0
import Derived.Deep.RegionLawGrows
import Derived.Deep.RegionHeld2
import Derived.Deep.CutBlock
/-
  Grows: what is not there, what is over, without a world; the document's; a step.
-/
namespace Go.Proofs.YtmagpbbjjkmbpaaGreat
open Go.RowKit Go.Maps
set_option linter.unusedVariables false

/-- Is a Grow, a Swap, of a word over at once? -/
def gdead (t : Int) : Bool := asNow t != 0 || asOld t == 12
def sdead (t : Int) : Bool := asNow t == 0
theorem asNow_nn (t : Int) : 0 ≤ asNow t := by unfold asNow; split <;> omega
end Go.Proofs.YtmagpbbjjkmbpaaGreat

/-
  Grows: a step in a world. (written by gengrow.py)
-/
namespace Go.Proofs.YtmagpbbjjkmbpaaGreat
open Go.RowKit Go.Maps
set_option linter.unusedVariables false

theorem ws_set4 {w0 w : World} {B : WB} {V : WV} {s : CS} {b o : Nat} {cs : Array Value} {T : TypeId} (h : WS w0 w B V s) (hb : w.heap[b]? = some (.cells cs T (0, 0))) (hT : wTy T = false) (hlo : w0.heap.size ≤ b) (v : Value) : WS w0 (w.setCell ⟨b, o, none⟩ v) B V s :=
  h.fr (set_ty hb o v) (fun X hX => by cases hXT : (X == T); rfl; rw [beq_iff_eq] at hXT; subst hXT; rw [hX] at hT; cases hT) (set_below h.below h.below.size hlo o v)
theorem wu_of_wf {v : Int} (h : 0 ≤ v ∧ v < 18446744073709551616) : (Lit.int .u64 v).wf = true := bd_wf h

end Go.Proofs.YtmagpbbjjkmbpaaGreat

/-
  Grows: layer 19's examples.
-/
namespace Go.Proofs.YtmagpbbjjkmbpaaGreat
open Go.RowKit Go.Maps
set_option linter.unusedVariables false

theorem world12v (b : Int) (hb : 1 ≤ b ∧ b ≤ 12) (w : World) : Calls Tryz.prog 74 #[.int .i64 b] w fun e w' => ∃ B, e = .returned (.pointer (some ⟨B.wb, 0, none⟩)) ∧ WS w w' B (v0 ⟨b, 8, 3, 1, 16⟩) (CS.init [(2, tword b 0)]) := by
  have hn1 : Calls Tryz.prog 59 #[.agg #[.int .i64 b, .int .i64 8, .int .i64 3, .int .i64 1, .int .i64 16]] w fun e w' => ∃ B : WB, e = .returned (.tuple #[.pointer (some ⟨B.wb, 0, none⟩), .int .i64 0]) ∧ WS w w' B (v0 ⟨b, 8, 3, 1, 16⟩) (CS.init [(2, tword b 0)]) :=
    (wnew_ok ⟨b, 8, 3, 1, 16⟩ (by simp [Conf.ok]; omega) w).mono fun e w' ⟨wb, cb, ib, nb, he, g1, g2, g3, g4, g5, g6, g7⟩ => ⟨⟨wb, cb, ib, nb⟩, he, ws_of (Below.refl _ w) g1 g2 g3 g4 g5 g6 g7⟩
  clear hb
  go_enter Tryz.func74, Tryz.ntmps74
  go_wp2_with (go_at_call 59; with_reducible refine hn1.mono ?_; rintro e w1 ⟨B, rfl, h1⟩)
  go_ret
  exact ⟨_, rfl, h1⟩
theorem WS.slow {w0 w : World} {B : WB} {V : WV} {s : CS} (h : WS w0 w B V s) : w0.heap.size ≤ w.heap.size := h.below.size
end Go.Proofs.YtmagpbbjjkmbpaaGreat

/-
  A Find: what lies in memory; what is told of it.
-/
namespace Go.Proofs.YtmagpbbjjkmbpaaGreat
open Go.RowKit Go.Maps TagPure
set_option linter.unusedVariables false

/-- What is still to be loaded. -/
inductive Ld where
  | tab
  | tag (p : Int × Int)
  | itm (p : Int × Int) (n : Int)
/-- A function value that loads it. -/
def LdAt (w : World) (fb : Nat) (v : Value) : Ld → Prop
  | .tab => v = .func (.func 86) #[.pointer (some ⟨fb, 0, none⟩)] #[]
  | .tag p => ∃ xb pb, v = .func (.func 144) #[] #[.pointer (some ⟨xb, 0, none⟩), .pointer (some ⟨pb, 0, none⟩)] ∧ w.heap[xb]? = some (.cells #[.pointer (some ⟨fb, 0, none⟩)] 78 (0, 0)) ∧ w.heap[pb]? = some (.cells #[.int .i64 p.1, .int .i64 p.2] 41 (0, 0))
  | .itm p n => ∃ xb pb nb, v = .func (.func 188) #[] #[.pointer (some ⟨xb, 0, none⟩), .pointer (some ⟨pb, 0, none⟩), .pointer (some ⟨nb, 0, none⟩)] ∧ w.heap[xb]? = some (.cells #[.pointer (some ⟨fb, 0, none⟩)] 78 (0, 0)) ∧ w.heap[pb]? = some (.cells #[.int .i64 p.1, .int .i64 p.2] 41 (0, 0)) ∧ w.heap[nb]? = some (.cells #[.int .i64 n] 3 (0, 0))
/-- The list of what is left: values, and what they load. -/
def LeftRow (w : World) (fb : Nat) (v : Value) (ls : List Ld) : Prop :=
  ∃ a c, v = .slice a ls.length c ∧ ls.length ≤ c ∧ c ≤ maxLen ∧ ((ls = [.tab] ∧ c = 1) ∨ ∀ l ∈ ls, l ≠ .tab) ∧ (ls = [] ∨ ∃ g o cur, a = some ⟨g, o, none⟩ ∧ w.heap[g]? = some (.cells cur 232 (0, 0)) ∧ ∀ i, (hi : i < ls.length) → ∃ u, cur[o + i]? = some u ∧ LdAt w fb u ls[i])
/-- A Find's words. -/
structure FW where
  key : ByteArray
  word : Int
  b : Int
  u : Int
  k : Int
  ref : Int
def FW.cells (f : FW) (v : Value) : Array Value := #[.string f.key, v, .int .u64 f.word, .int .i64 f.b, .int .i64 f.u, .int .i64 f.k, .int .i64 f.ref]
def FindAt (w : World) (fb : Nat) (f : FW) (ls : List Ld) : Prop := ∃ v, w.heap[fb]? = some (.cells (f.cells v) 224 (0, 0)) ∧ LeftRow w fb v ls
def fTy (T : TypeId) : Bool := T == 232 || T == 78 || T == 41 || T == 3
section
variable {w w' : World} {fb : Nat} {v : Value} {l : Ld} {ls : List Ld} {f : FW}
theorem LdAt.fr {K : TypeId → Bool} {mp : Bool} (h : LdAt w fb v l) (hf : Fr K mp w w') (hK : ∀ T, fTy T = true → K T = false) : LdAt w' fb v l := by
  cases l with
  | tab => exact h
  | tag p =>
    obtain ⟨xb, pb, h1, h2, h3⟩ := h
    exact ⟨xb, pb, h1, hf.cells _ _ _ _ h2 (hK _ rfl), hf.cells _ _ _ _ h3 (hK _ rfl)⟩
  | itm p n =>
    obtain ⟨xb, pb, nb, h1, h2, h3, h4⟩ := h
    exact ⟨xb, pb, nb, h1, hf.cells _ _ _ _ h2 (hK _ rfl), hf.cells _ _ _ _ h3 (hK _ rfl), hf.cells _ _ _ _ h4 (hK _ rfl)⟩
theorem LeftRow.fr {K : TypeId → Bool} {mp : Bool} (h : LeftRow w fb v ls) (hf : Fr K mp w w') (hK : ∀ T, fTy T = true → K T = false) : LeftRow w' fb v ls := by
  obtain ⟨a, c, h1, h2, h3, ht, h4 | ⟨g, o, cur, h4, h5, h6⟩⟩ := h
  · exact ⟨a, c, h1, h2, h3, ht, .inl h4⟩
  · refine ⟨a, c, h1, h2, h3, ht, .inr ⟨g, o, cur, h4, hf.cells _ _ _ _ h5 (hK _ rfl), fun i hi => ?_⟩⟩
    obtain ⟨u, h7, h8⟩ := h6 i hi
    exact ⟨u, h7, h8.fr hf hK⟩
theorem FindAt.fr {K : TypeId → Bool} {mp : Bool} (h : FindAt w fb f ls) (hf : Fr K mp w w') (hK : ∀ T, fTy T = true → K T = false) (h2 : K 224 = false) : FindAt w' fb f ls := by
  obtain ⟨v, h3, h4⟩ := h
  exact ⟨v, hf.cells _ _ _ _ h3 h2, h4.fr hf hK⟩
theorem FindAt.below (h : FindAt w fb f ls) (hb : Below w.heap.size w w') : FindAt w' fb f ls := h.fr (below_fr hb (fun _ => false) false) (fun _ _ => rfl) rfl
theorem LeftRow.below (h : LeftRow w fb v ls) (hb : Below w.heap.size w w') : LeftRow w' fb v ls := h.fr (below_fr hb (fun _ => false) false) (fun _ _ => rfl)
theorem FindAt.lt (h : FindAt w fb f ls) : fb < w.heap.size := by obtain ⟨v, h3, _⟩ := h; exact (Array.getElem?_eq_some_iff.1 h3).1
theorem w_not_f (T : TypeId) (h : fTy T = true) : wTy T = false := by
  unfold fTy at h
  simp only [Bool.or_eq_true, beq_iff_eq] at h
  rcases h with ((rfl | rfl) | rfl) | rfl <;> rfl
end
theorem fw_cells {W : World} {q : Nat} {f : FW} {v : Value} (z : W.heap[q]? = some (.cells (f.cells v) 224 (0, 0))) : W.cell? ⟨q, 0, none⟩ = some (.string f.key) ∧ W.cell? ⟨q, 1, none⟩ = some v ∧ W.cell? ⟨q, 2, none⟩ = some (.int .u64 f.word) ∧ W.cell? ⟨q, 3, none⟩ = some (.int .i64 f.b) ∧ W.cell? ⟨q, 4, none⟩ = some (.int .i64 f.u) ∧ W.cell? ⟨q, 5, none⟩ = some (.int .i64 f.k) ∧ W.cell? ⟨q, 6, none⟩ = some (.int .i64 f.ref) :=
  ⟨hcell z 0, hcell z 1, hcell z 2, hcell z 3, hcell z 4, hcell z 5, hcell z 6⟩
/-- Is it over? -/
theorem fover {w : World} {fb : Nat} {f : FW} {ls : List Ld} (h : FindAt w fb f ls) : Calls Tryz.prog 30 #[.pointer (some ⟨fb, 0, none⟩)] w fun e w' => e = .returned (.bool (decide (ls = []))) ∧ w' = w := by
  obtain ⟨v, h1, a, c, rfl, h2, h3, -, -⟩ := h
  obtain ⟨-, c1, -⟩ := fw_cells h1
  have hd : ((ls.length : Int) == 0) = decide (ls = []) := by
    cases ls with
    | nil => rfl
    | cons x r => simp; omega
  have hd2 : (ls.length == 0) = decide (ls = []) := by cases ls <;> rfl
  generalize decide (ls = []) = d at *
  clear h1
  go_enter Tryz.func30, Tryz.ntmps30
  go_wp2
  go_ret
  exact ⟨rfl, rfl⟩
theorem fover_nil (w : World) : Calls Tryz.prog 30 #[.pointer none] w fun e w' => e = .returned (.bool true) ∧ w' = w := by
  go_enter Tryz.func30, Tryz.ntmps30
  go_wp2
  go_ret
  exact ⟨rfl, rfl⟩
theorem fword {w : World} {fb : Nat} {f : FW} {ls : List Ld} (h : FindAt w fb f ls) : Calls Tryz.prog 76 #[.pointer (some ⟨fb, 0, none⟩)] w fun e w' => e = .returned (.int .u64 (if ls = [] then f.word else 0)) ∧ w' = w := by
  have ho := fover h
  obtain ⟨v, h1, -⟩ := h
  obtain ⟨-, -, c2, -⟩ := fw_cells h1
  clear h1
  by_cases hl : ls = []
  · rw [decide_eq_true hl] at ho
    rw [if_pos hl]
    clear hl
    go_enter Tryz.func76, Tryz.ntmps76
    go_wp2_with (go_at_call 30; refine ho.mono ?_; intro e w2 hh; obtain ⟨hh1, hh2⟩ := hh; subst hh1; obtain rfl := hh2.symm; clear ho)
    go_ret
    exact ⟨rfl, rfl⟩
  · rw [decide_eq_false hl] at ho
    rw [if_neg hl]
    clear hl
    go_enter Tryz.func76, Tryz.ntmps76
    go_wp2_with (go_at_call 30; refine ho.mono ?_; intro e w2 hh; obtain ⟨hh1, hh2⟩ := hh; subst hh1; obtain rfl := hh2.symm; clear ho)
    go_ret
    exact ⟨rfl, rfl⟩
theorem fword_nil (w : World) : Calls Tryz.prog 76 #[.pointer none] w fun e w' => e = .returned (.int .u64 0) ∧ w' = w := by
  go_enter Tryz.func76, Tryz.ntmps76
  go_wp2
  go_ret
  exact ⟨rfl, rfl⟩
theorem fgot {w : World} {fb : Nat} {f : FW} {ls : List Ld} (h : FindAt w fb f ls) : Calls Tryz.prog 28 #[.pointer (some ⟨fb, 0, none⟩)] w fun e w' => e = .returned (.tuple #[.agg #[.int .i64 f.b, .int .i64 f.u, .int .i64 f.k], .int .i64 f.ref]) ∧ Below w.heap.size w w' := by
  obtain ⟨v, h1, -⟩ := h
  obtain ⟨-, -, -, c3, c4, c5, c6⟩ := fw_cells h1
  have hne : fb < w.heap.size := (Array.getElem?_eq_some_iff.1 h1).1
  have hb := below_alloc w (.cells #[.int .i64 0, .int .i64 0, .int .i64 0] 43)
  clear h1
  go_enter Tryz.func28, Tryz.ntmps28
  go_upto_region 3 with (fail)
  change Code.wp _ _ _ _ (w.alloc (.cells #[.int .i64 0, .int .i64 0, .int .i64 0] 43))
  have hz := heap_alloc_new w (.cells #[.int .i64 0, .int .i64 0, .int .i64 0] 43)
  have k : ∀ {j : Nat} {u : Value}, w.cell? ⟨fb, j, none⟩ = some u → (w.alloc (.cells #[.int .i64 0, .int .i64 0, .int .i64 0] 43)).cell? ⟨fb, j, none⟩ = some u := fun h => (hb.cell hne).trans h
  have hne2 : fb ≠ w.heap.size := Nat.ne_of_lt hne
  have g3 := k c3; have g4 := k c4; have g5 := k c5; have g6 := k c6
  have d0 := hcell hz 0; have d1 := hcell hz 1; have d2 := hcell hz 2
  have f0 := hfrz hz 0; have f1 := hfrz hz 1; have f2 := hfrz hz 2
  have HB := Lib.hid hb; have HZ := Lib.hid hz
  clear c3 c4 c5 c6 k hb hz hne
  generalize w.alloc (.cells #[.int .i64 0, .int .i64 0, .int .i64 0] 43) = w1 at *
  go_region
  all_goals (try go_wp2_with fail)
  have s1 := setCell_same HZ.out 0 (.int .i64 f.b)
  have s2 := setCell_same s1 1 (.int .i64 f.u)
  have s3 := setCell_same s2 2 (.int .i64 f.k)
  have h0 := hcell s3 0; have h1 := hcell s3 1; have h2 := hcell s3 2
  have b1 := set_below HB.out HB.out.size (Nat.le_refl _) 0 (.int .i64 f.b)
  have b2 := set_below b1 b1.size (Nat.le_refl _) 1 (.int .i64 f.u)
  have b3 := set_below b2 b2.size (Nat.le_refl _) 2 (.int .i64 f.k)
  clear d0 d1 d2 g3 g4 g5 g6 f0 f1 f2
  all_goals refine bodyPost_ret (v := .tuple #[.agg #[.int .i64 f.b, .int .i64 f.u, .int .i64 f.k], .int .i64 f.ref]) (by simp [results, Tryz.results28, go_sem, h0, h1, h2]) rfl ⟨rfl, ?_⟩
  all_goals exact ⟨b3.os, b3.tape, b3.output, b3.size, fun k hk => b3.block k hk⟩
theorem fgot_nil (w : World) : Calls Tryz.prog 28 #[.pointer none] w fun e w' => e = .returned (.tuple #[.agg #[.int .i64 0, .int .i64 0, .int .i64 0], .int .i64 0]) ∧ Below w.heap.size w w' := by
  have hb := below_alloc w (.cells #[.int .i64 0, .int .i64 0, .int .i64 0] 43)
  go_enter Tryz.func28, Tryz.ntmps28
  go_wp2
  refine bodyPost_ret (v := .tuple #[.agg #[.int .i64 0, .int .i64 0, .int .i64 0], .int .i64 0]) (by simp [results, Tryz.results28, go_sem]) rfl ⟨rfl, ?_⟩
  exact hb
theorem fstep_nil (u : Value) (w : World) : Calls Tryz.prog 34 #[.pointer none, u] w fun e w' => e = .returned (.bool true) ∧ w' = w := by
  go_enter Tryz.func34, Tryz.ntmps34
  go_wp2_with (go_at_call 30; refine (fover_nil _).mono ?_; intro e w2 hh; obtain ⟨hh1, hh2⟩ := hh; subst hh1; obtain rfl := hh2.symm)
  go_ret
  exact ⟨rfl, rfl⟩
theorem fstep_over {w : World} {fb : Nat} {f : FW} (h : FindAt w fb f []) (u : Value) : Calls Tryz.prog 34 #[.pointer (some ⟨fb, 0, none⟩), u] w fun e w' => e = .returned (.bool true) ∧ w' = w := by
  have ho := fover h
  rw [show decide (([] : List Ld) = []) = true from rfl] at ho
  clear h
  go_enter Tryz.func34, Tryz.ntmps34
  go_wp2_with (go_at_call 30; refine ho.mono ?_; intro e w2 hh; obtain ⟨hh1, hh2⟩ := hh; subst hh1; obtain rfl := hh2.symm)
  go_ret
  exact ⟨rfl, rfl⟩
theorem fstep_no {w : World} {fb : Nat} {f : FW} {l : Ld} {ls : List Ld} (h : FindAt w fb f (l :: ls)) : Calls Tryz.prog 34 #[.pointer (some ⟨fb, 0, none⟩), .pointer none] w fun e w' => e = .returned (.bool false) ∧ w' = w := by
  have ho := fover h
  rw [show decide (l :: ls = []) = false from rfl] at ho
  clear h
  go_enter Tryz.func34, Tryz.ntmps34
  go_wp2_with (go_at_call 30; refine ho.mono ?_; intro e w2 hh; obtain ⟨hh1, hh2⟩ := hh; subst hh1; obtain rfl := hh2.symm)
  go_ret
  exact ⟨rfl, rfl⟩
theorem newfind (key : ByteArray) (w : World) : Calls Tryz.prog 27 #[.string key] w fun e w' => ∃ fb, e = .returned (.pointer (some ⟨fb, 0, none⟩)) ∧ FindAt w' fb ⟨key, 0, 0, 0, 0, 0⟩ [.tab] ∧ w.heap.size ≤ fb ∧ Below w.heap.size w w' := by
  go_enter Tryz.func27, Tryz.ntmps27
  go_wp2
  go_ret
  have b1 := below_alloc w (.cells #[.string key, .slice (some ⟨w.heap.size + 1, 0, none⟩) 1 1, .int .u64 0, .int .i64 0, .int .i64 0, .int .i64 0, .int .i64 0] 224)
  have z1 := heap_alloc_new w (.cells #[.string key, .slice (some ⟨w.heap.size + 1, 0, none⟩) 1 1, .int .u64 0, .int .i64 0, .int .i64 0, .int .i64 0, .int .i64 0] 224)
  have hs : (w.alloc (.cells #[.string key, .slice (some ⟨w.heap.size + 1, 0, none⟩) 1 1, .int .u64 0, .int .i64 0, .int .i64 0, .int .i64 0, .int .i64 0] 224)).heap.size = w.heap.size + 1 := by simp
  have z2 := heap_alloc_new (w.alloc (.cells #[.string key, .slice (some ⟨w.heap.size + 1, 0, none⟩) 1 1, .int .u64 0, .int .i64 0, .int .i64 0, .int .i64 0, .int .i64 0] 224)) (.cells #[.func (.func 86) #[.pointer (some ⟨w.heap.size, 0, none⟩)] #[]] 232)
  rw [hs] at z2
  refine ⟨w.heap.size, rfl, ⟨_, heap_alloc_old z1, some ⟨w.heap.size + 1, 0, none⟩, 1, rfl, Nat.le_refl _, by unfold maxLen; omega, .inl ⟨rfl, rfl⟩, .inr ⟨_, 0, _, rfl, z2, fun i hi => ?_⟩⟩, Nat.le_refl _, bnext b1 (below_alloc _ _)⟩
  have : i = 0 := by simp at hi; omega
  subst this
  exact ⟨_, rfl, rfl⟩
end Go.Proofs.YtmagpbbjjkmbpaaGreat

/-
  A Find: the table's load.
-/
namespace Go.Proofs.YtmagpbbjjkmbpaaGreat
open Go.RowKit Go.Maps TagPure
set_option linter.unusedVariables false

theorem info_ld : (Tryz.prog.info? 232).map (fun i => (i.zero, i.size, i.bytes)) = some (some .nilFunc, 1, 8) := by kernel_rfl
/-- A list of loads that is own, or empty without room. -/
def LOwn (w : World) (base : Nat) (v : Value) (xs : List Value) : Prop :=
  (xs = [] ∧ ∃ ao, v = .slice ao 0 0) ∨ w.ownsRow base 232 1 v xs.length xs
def Lds (w : World) (fb : Nat) (xs : List Value) (ls : List Ld) : Prop := xs.length = ls.length ∧ ∀ i, (hi : i < ls.length) → ∃ u, xs[i]? = some u ∧ LdAt w fb u ls[i]
theorem LOwn.sl {w : World} {base : Nat} {v : Value} {xs : List Value} (h : LOwn w base v xs) : ∃ ao c, v = .slice ao xs.length c := by
  rcases h with ⟨rfl, ao, rfl⟩ | h
  · exact ⟨ao, 0, rfl⟩
  · exact own_sl2 h
theorem Lds.fr {w w' : World} {fb : Nat} {xs : List Value} {ls : List Ld} {K : TypeId → Bool} {mp : Bool} (h : Lds w fb xs ls) (hf : Fr K mp w w') (hK : ∀ T, fTy T = true → K T = false) : Lds w' fb xs ls :=
  ⟨h.1, fun i hi => by obtain ⟨u, h1, h2⟩ := h.2 i hi; exact ⟨u, h1, h2.fr hf hK⟩⟩
theorem ldat_fr2 {w w' : World} {fb : Nat} {v : Value} {l : Ld} {K : TypeId → Bool} {mp : Bool} (h : LdAt w fb v l) (hf : Fr K mp w w') (h1 : K 78 = false) (h2 : K 41 = false) (h3 : K 3 = false) : LdAt w' fb v l := by
  cases l with
  | tab => exact h
  | tag p =>
    obtain ⟨xb, pb, g1, g2, g3⟩ := h
    exact ⟨xb, pb, g1, hf.cells _ _ _ _ g2 h1, hf.cells _ _ _ _ g3 h2⟩
  | itm p n =>
    obtain ⟨xb, pb, nb, g1, g2, g3, g4⟩ := h
    exact ⟨xb, pb, nb, g1, hf.cells _ _ _ _ g2 h1, hf.cells _ _ _ _ g3 h2, hf.cells _ _ _ _ g4 h3⟩
theorem lds_fr2 {w w' : World} {fb : Nat} {xs : List Value} {ls : List Ld} {K : TypeId → Bool} {mp : Bool} (h : Lds w fb xs ls) (hf : Fr K mp w w') (h1 : K 78 = false) (h2 : K 41 = false) (h3 : K 3 = false) : Lds w' fb xs ls :=
  ⟨h.1, fun i hi => by obtain ⟨u, g1, g2⟩ := h.2 i hi; exact ⟨u, g1, ldat_fr2 g2 hf h1 h2 h3⟩⟩
theorem Lds.snoc {w : World} {fb : Nat} {xs : List Value} {ls : List Ld} {u : Value} {l : Ld} (h : Lds w fb xs ls) (hu : LdAt w fb u l) : Lds w fb (xs ++ [u]) (ls ++ [l]) := by
  refine ⟨by simp [h.1], fun i hi => ?_⟩
  by_cases hlt : i < ls.length
  · obtain ⟨v, h1, h2⟩ := h.2 i hlt
    exact ⟨v, by rw [List.getElem?_append_left (by rw [h.1]; exact hlt)]; exact h1, by rw [List.getElem_append_left hlt]; exact h2⟩
  · have : i = ls.length := by simp at hi; omega
    subst this
    exact ⟨u, by rw [← h.1]; simp, by simpa using hu⟩
theorem row_of {w : World} {base fb : Nat} {v : Value} {xs : List Value} {ls : List Ld} (h : LOwn w base v xs) (hl : Lds w fb xs ls) (ht : ∀ l ∈ ls, l ≠ .tab) : LeftRow w fb v ls := by
  rcases h with ⟨rfl, ao, rfl⟩ | ⟨h1, ⟨rfl, h0⟩ | ⟨g, cap, cur, rfl, hb, hg, hn, hm, hs, hx⟩⟩
  · have h0 : ls = [] := by have := hl.1; exact List.eq_nil_of_length_eq_zero this.symm
    subst h0
    exact ⟨ao, 0, rfl, Nat.le_refl _, Nat.zero_le _, .inr ht, .inl rfl⟩
  · have h0 : ls = [] := by have := hl.1; rw [h0] at this; exact List.eq_nil_of_length_eq_zero this.symm
    subst h0
    exact ⟨none, 0, by simp, Nat.le_refl _, Nat.zero_le _, .inr ht, .inl rfl⟩
  · refine ⟨_, cap, by rw [hl.1], by rw [← hl.1]; exact hn, hm, .inr ht, .inr ⟨g, 0, cur, rfl, hg, fun i hi => ?_⟩⟩
    obtain ⟨u, h2, h3⟩ := hl.2 i hi
    refine ⟨u, ?_, h3⟩
    rw [← hx, List.getElem?_take, if_pos (by have := hl.1; omega), Array.getElem?_toList] at h2
    rw [Nat.zero_add]; exact h2
/-- One load more. -/
theorem step_append_left {ops : Array Oper} {o : Oper} {a : Act} {w : World} {K : Act → World → Prop} {Q : Exit → Act → World → Prop} {E : Prop} (hgd : o.guard = none) (s x : Operand)
    (ho : o.op = .call { callee := .builtin .append, args := #[s, x], argTypes := #[222, 222] })
    (base : Nat) (v : Value) (xs : List Value) (hs : a.eval s = v) (hown : LOwn w base v xs) (q T : Nat) (fr : Nat × Nat) (u : Value) (hx : a.eval x = .slice (some ⟨q, 0, none⟩) 1 1)
    (hq : w.heap[q]? = some (.cells #[u] T fr)) (hu : u.oneCell' = true) (hn : xs.length ≤ 1000) (hbase : base ≤ w.heap.size)
    (h : ∀ g cap w', w'.ownsRow base 232 1 (.slice (some ⟨g, 0, none⟩) (xs.length + 1) cap) (xs.length + 1) (xs ++ [u]) → Keeps (fun k => base ≤ k) w w' → Fr (fun X => X == 232) false w w' → K (a.put o.dst (.slice (some ⟨g, 0, none⟩) (xs.length + 1) cap)) w') :
    if Region.wanted o (yielded ops a.tmps) = true then Oper.wp Tryz.prog o a w K Q else E := by
  obtain ⟨i0, hi0, hz0, hz1, hz2⟩ := info_parts info_ld
  rcases hown with ⟨rfl, ao, rfl⟩ | hown
  · refine step_append_grows hgd s x _ ho 232 i0 _ 1 8 Tryz.underlying222 hi0 hz0 hz1 hz2 rfl (by decide) ao 0 0 [] hs (fun _ => ⟨rfl, rfl⟩) rfl (fun _ _ _ _ c => by simp at c) ⟨q, 0, none⟩ 1 1 [u] hx rfl (World.news_of_block (cs := #[u]) hq) (by simpa using hu) (by omega) (by unfold maxLen; omega) (by omega) ?_
    intro v' w' hown' hg
    obtain ⟨g, cap, y, rfl, -, -, hb⟩ := own_at hown' 0 (by omega)
    exact h g cap w' (own_lower hown' hbase) ⟨hg.os, hg.tape, hg.output, hg.size, fun k hk _ => hg.block k hk (fun c => by cases c)⟩ ⟨hg.size, fun k cs T fr hk _ => (hg.block k (Array.getElem?_eq_some_iff.1 hk).1 (fun c => by cases c)).trans hk, fun _ k es cl hk => (hg.block k (Array.getElem?_eq_some_iff.1 hk).1 (fun c => by cases c)).trans hk⟩
  · refine step_append_lies _ hgd s x _ ho base 232 i0 _ 1 8 Tryz.underlying222 hi0 hz0 hz1 hz2 rfl (by decide) v xs.length xs hs hown ⟨q, 0, none⟩ 1 1 [u] hx rfl (World.news_of_block (cs := #[u]) hq) (by simpa using hu) (by omega) (by unfold maxLen; omega) (by omega) hbase w.heap.size rfl ?_
    intro g cap w' hown' hg hat hlt
    exact h g cap w' hown' ⟨hg.os, hg.tape, hg.output, hg.size, fun k hk hn => hg.block k hk (fun c => hn (hown.lt k c.symm).1)⟩ (grown_ty hown hg)
theorem PlN.keeps {w w' : World} {base : Nat} {v : Value} {l : List (Int × Int)} {S : Nat → Prop} (h : PlN w base v l) (hk : Keeps S w w') (hS : ∀ k, S k → k < base) : PlN w' base v l := by
  rcases h with h | ⟨g, cur, h1, h2, h3, h4⟩
  · exact .inl h
  · exact .inr ⟨g, cur, h1, h2, (hk.block _ (Array.getElem?_eq_some_iff.1 h3).1 (fun c => by have := hS _ c; omega)).trans h3, h4⟩
theorem LOwn.below {w w' : World} {base : Nat} {v : Value} {xs : List Value} (h : LOwn w base v xs) (hb : Below w.heap.size w w') : LOwn w' base v xs := h.imp id (fun g => own_below g hb)
theorem keeps_fx {w w' : World} {b : Nat} (h : Keeps (· = b) w w') (K : TypeId → Bool) (mp : Bool) : Fx K mp b w w' :=
  ⟨h.size, fun k cs T fr hk _ hb => (h.block k (Array.getElem?_eq_some_iff.1 hk).1 hb).trans hk, fun _ k es cl hk hb => (h.block k (Array.getElem?_eq_some_iff.1 hk).1 hb).trans hk⟩
theorem ws_keeps {w0 w w' : World} {B : WB} {V : WV} {s : CS} {b : Nat} {cs : Array Value} {T : TypeId} {fr : Nat × Nat} (h : WS w0 w B V s) (hk : Keeps (· = b) w w') (hb : w.heap[b]? = some (.cells cs T fr)) (hT : wTy T = false) (hlo : w0.heap.size ≤ b) : WS w0 w' B V s :=
  h.fr (keeps_fr hk (fun X => X == T) false (fun k e => ⟨_, _, _, e ▸ hb, by simp⟩)) (fun X hX => by cases hXT : (X == T); rfl; rw [beq_iff_eq] at hXT; subst hXT; rw [hX] at hT; cases hT) (keeps_below hk h.below h.below.size (fun k e => e ▸ hlo))
theorem pln_at {w : World} {base : Nat} {ao : Option Addr} {l : List (Int × Int)} (h : PlN w base (.slice ao l.length l.length) l) : Plc w ao l.length l := by
  obtain ⟨ao2, e, hp⟩ := h.plc
  simp only [Value.slice.injEq, and_true] at e
  rw [e]; exact hp
theorem take_tag (L : List (Int × Int)) (k : Nat) (h : k < L.length) : (L.take (k + 1)).map Ld.tag = (L.take k).map Ld.tag ++ [.tag L[k]] := by
  rw [List.take_add_one, List.getElem?_eq_getElem h, List.map_append]; rfl
theorem pair_len (h b : Int) : (pairOf h b).length ≤ 2 := by unfold pairOf; split <;> simp
theorem plist_len (h v : Int) : (plist h v).length ≤ 4 := by
  have h1 := dedup_len (pairOf h (asOld v) ++ pairOf h (asNow v))
  have h2 := pair_len h (asOld v)
  have h3 := pair_len h (asNow v)
  rw [List.length_append] at h1
  unfold plist; omega
theorem set_keeps_ty {w : World} {q T : Nat} {cs : Array Value} (h : w.heap[q]? = some (.cells cs T (0, 0))) (o : Nat) (v : Value) : Keeps (· = q) w (w.setCell ⟨q, o, none⟩ v) ∧ Fr (fun X => X == T) false w (w.setCell ⟨q, o, none⟩ v) := ⟨setCell_keeps w q o v, set_ty h o v⟩
abbrev TThree (fb xb : Nat) (k : ByteArray) (x : Int) (W : World) : Prop := W.cell? ⟨xb, 0, none⟩ = some (.pointer (some ⟨fb, 0, none⟩)) ∧ W.cell? ⟨fb, 0, none⟩ = some (.string k) ∧ W.cell? ⟨fb, 2, none⟩ = some (.int .u64 x)
theorem tthree_of {W : World} {fb xb : Nat} {f : FW} {v : Value} (h : W.heap[fb]? = some (.cells (f.cells v) 224 (0, 0))) (hx : W.heap[xb]? = some (.cells #[.pointer (some ⟨fb, 0, none⟩)] 78 (0, 0))) : TThree fb xb f.key f.word W := ⟨hcell hx 0, hcell h 0, hcell h 2⟩
set_option maxRecDepth 10000 in
set_option maxHeartbeats 2000000 in
theorem ftable {w0 w : World} {B : WB} {V : WV} {s : CS} {fb : Nat} {f : FW} (h : WS w0 w B V s) (hr : s.room) (hlo : w0.heap.size ≤ fb) (hk : f.key.size ≤ 1000000) (ao : Option Addr) (hb : w.heap[fb]? = some (.cells (f.cells (.slice ao 0 0)) 224 (0, 0))) :
    Calls Tryz.prog 86 #[.pointer (some ⟨fb, 0, none⟩), .pointer (some ⟨B.wb, 0, none⟩)] w fun e w' => e = .returned (.bool false) ∧ WS w0 w' B V (s.acc 1 2 (s.val 2)) ∧
      FindAt w' fb { f with word := s.val 2 } ((plist (hashOf f.key) (s.val 2)).map Ld.tag) ∧ Fx wTy true fb w w' := by
  have hwf := h.own.wf 2
  have hfb := (Array.getElem?_eq_some_iff.1 hb).1
  have hba := below_alloc w (.cells #[.pointer (some ⟨fb, 0, none⟩)] 78)
  have hza := heap_alloc_new w (.cells #[.pointer (some ⟨fb, 0, none⟩)] 78)
  have h1 := h.keep hba
  have hb1 := (hba.block _ hfb).trans hb
  have F1 := Lib.hid (below_fr hba wTy true)
  have hz := hba.size
  have hxb : (w.alloc (.cells #[.pointer (some ⟨fb, 0, none⟩)] 78)).heap.size = w.heap.size + 1 := by simp
  have HXB := Lib.hid hxb
  have H1 := Lib.hid h1; have HB1 := Lib.hid hb1; have HZA := Lib.hid hza; have HFB := Lib.hid hfb; have HWF := Lib.hid hwf; have HK := Lib.hid hk; have HR := Lib.hid hr
  clear hba hza h1 hb1 hz hb h hxb hfb hwf hk hr
  go_enter Tryz.func86, Tryz.ntmps86
  go_upto_region 1 with (fail)
  change Code.wp _ _ _ _ (w.alloc (.cells #[.pointer (some ⟨fb, 0, none⟩)] 78))
  generalize w.alloc (.cells #[.pointer (some ⟨fb, 0, none⟩)] 78) = w1 at *
  generalize hxb : w.heap.size = xb at *
  have HX := Lib.hid hxb
  clear hxb
  go_cut [] (fun wx => WS w0 wx B V (s.acc 1 2 (s.val 2)) ∧ wx.heap[fb]? = some (.cells (FW.cells { f with word := s.val 2 } (.slice ao 0 0)) 224 (0, 0)) ∧ wx.heap[xb]? = some (.cells #[.pointer (some ⟨fb, 0, none⟩)] 78 (0, 0)) ∧ Fx wTy true fb w wx)
  case first =>
    have hd0 := H1.out.keep (Below.refl w1.heap.size w1).drew
    have y0 : w1.drew.cell? ⟨B.wb, 0, none⟩ = some (.pointer (some ⟨B.cb, 0, none⟩)) := hd0.c0
    have y1 : w1.drew.cell? ⟨xb, 0, none⟩ = some (.pointer (some ⟨fb, 0, none⟩)) := hcell (w := w1.drew) HZA.out 0
    have hlw := hd0.load HR.out 2 (by decide)
    have F1D := Lib.hid (F1.out.trans (below_fr (Below.refl w1.heap.size w1).drew wTy true))
    clear hd0
    go_region_with (go_at_call 143; refine hlw.mono ?_; intro e w2 hh; obtain ⟨hh1, h2, f2⟩ := hh; subst hh1; have hb2 := f2.cells _ _ _ _ HB1.out rfl; have hz2 := f2.cells _ _ _ _ HZA.out rfl; have z1 : w2.cell? ⟨fb, 2, none⟩ = some (.int .u64 f.word) := hcell hb2 2; have z2 := hfrz hb2; have z3 : w2.cell? ⟨xb, 0, none⟩ = some (.pointer (some ⟨fb, 0, none⟩)) := hcell hz2 0; have H2 := Lib.hid h2; have F2 := Lib.hid (F1D.out.trans f2); have HB2 := Lib.hid hb2; have HZ2 := Lib.hid hz2; clear h2 f2 hb2 hz2 y0 y1 hlw)
    all_goals (try go_wp2_with fail)
    all_goals go_meet
    all_goals
      have s1 := setCell_same HB2.out 2 (.int .u64 (s.val 2))
      have s2 := setCell_keeps w2 fb 2 (.int .u64 (s.val 2))
      have hne : xb ≠ fb := fun c => by have := HZ2.out; rw [c] at this; have := this.symm.trans HB2.out; simp at this
      exact ⟨set_take (o := 2) H2.out HB2.out rfl hlo _, s1, (s2.block _ (Array.getElem?_eq_some_iff.1 HZ2.out).1 hne).trans HZ2.out, (F2.out.fx fb).trans (set_fx _ _ _ _ _ _)⟩
  case rest =>
    obtain ⟨h2, hb2, hz2, fx2⟩ := hcut
    obtain ⟨L, hL⟩ : ∃ L, L = plist (hashOf f.key) (s.val 2) := ⟨_, rfl⟩
    have hH := fun W => hash_any f.key HK.out W
    have hP := fun W => places_any (hashOf f.key) (s.val 2) (hfold_bd _ _).1 (hfold_bd _ _).2 HWF.out W
    have hLL := plist_len (hashOf f.key) (s.val 2)
    rw [← hL] at hLL
    rw [← hL] at hP
    have hlt2 := (Array.getElem?_eq_some_iff.1 hb2).1
    have hltx := (Array.getElem?_eq_some_iff.1 hz2).1
    have hs2 : TThree fb xb f.key (s.val 2) wc.drew := tthree_of (f := { f with word := s.val 2 }) (W := wc.drew) hb2 hz2
    have H2 := Lib.hid h2; have HB2 := Lib.hid hb2; have HZ2 := Lib.hid hz2; have FX2 := Lib.hid fx2; have HH := Lib.hid hH; have HP := Lib.hid hP; have HLL := Lib.hid hLL; have HL := Lib.hid hL
    clear h2 hb2 hz2 fx2 hH hP hLL hL H1 HB1 HZA F1
    go_upto_region 2 with (fail)
    go_region_held2 (fun W => TThree fb xb f.key (s.val 2) W) (assumption) (first
      | (go_at_call 20; refine (HH.out _).mono ?_; intro e w3 hh; obtain ⟨hh1, b3⟩ := hh; subst hh1; have s3 : TThree fb xb f.key (s.val 2) w3 := ⟨(b3.cell hltx).trans hs2.1, (b3.cell hlt2).trans hs2.2.1, (b3.cell hlt2).trans hs2.2.2⟩; have B3 := Lib.hid ((Below.refl wc.heap.size wc).drew.trans b3); clear b3)
      | (go_at_call 21; refine (HP.out _).mono ?_; intro e w4 hh; obtain ⟨pv, hh1, hp, b4⟩ := hh; subst hh1; have hb3s := b4.size; obtain ⟨ao2, hpv, hpl⟩ := hp.plc; subst hpv; have s4 : TThree fb xb f.key (s.val 2) w4 := ⟨(b4.cell (Nat.lt_of_lt_of_le hltx B3.out.size)).trans s3.1, (b4.cell (Nat.lt_of_lt_of_le hlt2 B3.out.size)).trans s3.2.1, (b4.cell (Nat.lt_of_lt_of_le hlt2 B3.out.size)).trans s3.2.2⟩; have B4 := Lib.hid (B3.out.trans (b4.mono B3.out.size)); have HPL := Lib.hid hpl; have HPN := Lib.hid (And.intro B3.out.size hp); clear b4 hp hpl))
    have hne : xb ≠ fb := fun c => by have := HZ2.out; rw [c] at this; have := this.symm.trans HB2.out; simp at this
    have hb4 := (B4.out.block _ hlt2).trans HB2.out
    have hz4 := (B4.out.block _ hltx).trans HZ2.out
    have h4 := H2.out.keep B4.out
    have fx4 := FX2.out.trans ((below_fr B4.out wTy true).fx fb)
    obtain ⟨hpz, hpn⟩ := HPN.out
    have hpb : fb < w3.heap.size := Nat.lt_of_lt_of_le hlt2 hpz
    have hp4 : w3.heap.size ≤ w4.heap.size := hb3s
    have HB4 := Lib.hid hb4; have HZ4 := Lib.hid hz4; have H4 := Lib.hid h4; have FX4 := Lib.hid fx4; have HPN4 := Lib.hid hpn; have HPB := Lib.hid hpb; have HNE := Lib.hid hne; have HLN := Lib.hid HLL.out
    clear hb4 hz4 h4 fx4 hpn hpb hne hpz HPN B4 B3 HPL H2 HB2 HZ2 FX2 HH HP hs2 s3 s4 hlt2 hltx
    all_goals (try go_wp2_with fail)
    go_loopw [26] (fun i wr => ∃ (k : Nat) (v : Value) (xs : List Value), k ≤ L.length ∧ i = .int .i64 k ∧ wr.heap[fb]? = some (.cells (FW.cells { f with word := s.val 2 } v) 224 (0, 0)) ∧ LOwn wr w4.heap.size v xs ∧ Lds wr fb xs ((L.take k).map Ld.tag) ∧ Keeps (· = fb) w4 wr) (fun i _ => L.length - (intOf i).toNat)
    case atStart => exact ⟨0, _, [], by omega, rfl, HB4.out, .inl ⟨rfl, ao, rfl⟩, ⟨rfl, fun i hi => absurd hi (by simp)⟩, below_keeps (Below.refl _ _) _⟩
    case round =>
      obtain ⟨k, v, xs, hk, rfl, hbr, hown, hlds, hK⟩ := hrel
      by_cases hlt : k < L.length
      · have hlt' : (k : Int) < L.length := by omega
        have hzr := (hK.block _ (Array.getElem?_eq_some_iff.1 HZ4.out).1 HNE.out).trans HZ4.out
        have hpr := pln_at (HPN4.out.keeps hK (fun k e => e ▸ HPB.out))
        obtain ⟨b0, off, pa, pc, rfl, hlk, g0, g1⟩ := hpr.at k hlt
        have hlk' : L[k] = (pa, pc) := by rw [List.getElem?_eq_getElem hlt] at hlk; exact Option.some.inj hlk
        have htk := take_tag L k hlt
        rw [hlk'] at htk
        obtain ⟨la, lc, rfl⟩ := hown.sl
        have hba := below_alloc wr (.cells #[.int .i64 pa, .int .i64 pc] 41)
        have hza := heap_alloc_new wr (.cells #[.int .i64 pa, .int .i64 pc] 41)
        have hb5 := (hba.block _ (Array.getElem?_eq_some_iff.1 hbr).1).trans hbr
        have hz5 := (hba.block _ (Array.getElem?_eq_some_iff.1 hzr).1).trans hzr
        have hown5 := hown.below hba
        have hlds5 := hlds.fr (below_fr hba (fun _ => false) false) (fun _ _ => rfl)
        have hK5 := hK.again (below_keeps hba _)
        have hxl : xs.length ≤ 1000 := by have h1 := hlds.1; have h2 := HLN.out; rw [List.length_map, List.length_take] at h1; omega
        have HLT := Lib.hid hlt; have HTK := Lib.hid htk; have HB5 := Lib.hid hb5; have HZ5 := Lib.hid hz5; have HOW5 := Lib.hid hown5; have HLD5 := Lib.hid hlds5; have HK5 := Lib.hid hK5; have HZA := Lib.hid hza; have HXL := Lib.hid hxl; have HWZ := Lib.hid hK.size
        clear hzr hpr hlk hlk' htk hba hza hb5 hz5 hown5 hlds5 hK5 hbr hown hlds hK hxl
        go_upto_block 1 with (fail)
        go_cut [] (fun wx => ∃ (v' : Value) (xs' : List Value), wx.heap[fb]? = some (.cells (FW.cells { f with word := s.val 2 } v') 224 (0, 0)) ∧ LOwn wx w4.heap.size v' xs' ∧ Lds wx fb xs' ((L.take (k + 1)).map Ld.tag) ∧ Keeps (· = fb) w4 wx)
        case first =>
          go_upto_region 5 with (fail)
          change Code.wp _ _ _ _ (wr.alloc (.cells #[.int .i64 pa, .int .i64 pc] 41))
          clear g0 g1
          have hsz : (wr.alloc (.cells #[.int .i64 pa, .int .i64 pc] 41)).heap.size = wr.heap.size + 1 := by simp
          generalize wr.alloc (.cells #[.int .i64 pa, .int .i64 pc] 41) = w5 at *
          generalize wr.heap.size = pb at *
          have HSZ := Lib.hid hsz
          clear hsz
          have x0 : w5.cell? ⟨xb, 0, none⟩ = some (.pointer (some ⟨fb, 0, none⟩)) := hcell HZ5.out 0
          have x1 : w5.cell? ⟨fb, 1, none⟩ = some (.slice la xs.length lc) := hcell HB5.out 1
          have hlx := (Array.getElem?_eq_some_iff.1 HZ5.out).1
          have hlb := (Array.getElem?_eq_some_iff.1 HB5.out).1
          have x0' : ∀ o, (w5.alloc o).cell? ⟨xb, 0, none⟩ = some (.pointer (some ⟨fb, 0, none⟩)) := fun o => by rw [World.cell?_alloc_past _ _ _ hlx]; exact x0
          have x1' : ∀ o, (w5.alloc o).cell? ⟨fb, 1, none⟩ = some (.slice la xs.length lc) := fun o => by rw [World.cell?_alloc_past _ _ _ hlb]; exact x1
          have HNW : Hid (((w5.drew).alloc (.cells #[.func (.func 144) #[] #[.pointer (some ⟨xb, 0, none⟩), .pointer (some ⟨pb, 0, none⟩)]] 232)).heap[w5.heap.size]? = some (.cells #[.func (.func 144) #[] #[.pointer (some ⟨xb, 0, none⟩), .pointer (some ⟨pb, 0, none⟩)]] 232 (0, 0))) := heap_alloc_new (w5.drew) _
          have HWB : Hid (Below w5.heap.size w5 ((w5.drew).alloc (.cells #[.func (.func 144) #[] #[.pointer (some ⟨xb, 0, none⟩), .pointer (some ⟨pb, 0, none⟩)]] 232))) := ((Below.refl _ _).drew).alloc (Nat.le_refl _) _
          have HBS : Hid (w4.heap.size ≤ w5.heap.size) := HK5.out.size
          clear hlx hlb
          go_region_law ((refine step_append_left (by rfl) _ _ (by rfl) w4.heap.size (.slice la xs.length lc) xs (by rfl) (HOW5.out.below HWB.out) w5.heap.size 232 (0, 0) (.func (.func 144) #[] #[.pointer (some ⟨xb, 0, none⟩), .pointer (some ⟨pb, 0, none⟩)]) (by rfl) HNW.out rfl HXL.out (Nat.le_trans HBS.out HWB.out.size) ?_); intro g cap w6 hown6 hk6 hf6; have hb6 := hf6.cells _ _ _ _ ((HWB.out.block _ (Array.getElem?_eq_some_iff.1 HB5.out).1).trans HB5.out) rfl; have hz6 := hf6.cells _ _ _ _ ((HWB.out.block _ (Array.getElem?_eq_some_iff.1 HZ5.out).1).trans HZ5.out) rfl; have t0 : w6.cell? ⟨xb, 0, none⟩ = some (.pointer (some ⟨fb, 0, none⟩)) := hcell hz6 0; have t1 : w6.cell? ⟨fb, 1, none⟩ = some (.slice la xs.length lc) := hcell hb6 1; have t2 := hfrz hb6 1; have HO6 := Lib.hid hown6; have HK6 := Lib.hid hk6; have HF6 := Lib.hid hf6; have HB6 := Lib.hid hb6; clear hown6 hk6 hf6 hb6 hz6)
          all_goals (try go_wp2_with fail)
          all_goals go_meet
          all_goals
            have s1 := setCell_same HB6.out 1 (.slice (some ⟨g, 0, none⟩) (xs.length + 1) cap)
            have s2 := setCell_keeps w6 fb 1 (.slice (some ⟨g, 0, none⟩) (xs.length + 1) cap)
            have s3 := set_ty HB6.out 1 (.slice (some ⟨g, 0, none⟩) (xs.length + 1) cap)
            have f1 := below_fr HWB.out (fun _ => false) false
            have d1 := lds_fr2 (lds_fr2 (HLD5.out.fr f1 (fun _ _ => rfl)) HF6.out rfl rfl rfl) s3 rfl rfl rfl
            have d2 : LdAt (w6.setCell ⟨fb, 1, none⟩ (.slice (some ⟨g, 0, none⟩) (xs.length + 1) cap)) fb (.func (.func 144) #[] #[.pointer (some ⟨xb, 0, none⟩), .pointer (some ⟨pb, 0, none⟩)]) (.tag (pa, pc)) :=
              ⟨xb, pb, rfl, s3.cells _ _ _ _ (HF6.out.cells _ _ _ _ (f1.cells _ _ _ _ HZ5.out rfl) rfl) rfl, s3.cells _ _ _ _ (HF6.out.cells _ _ _ _ (f1.cells _ _ _ _ HZA.out rfl) rfl) rfl⟩
            have d3 := d1.snoc d2
            rw [← HTK.out] at d3
            have o3 := own_fr HO6.out s3 rfl
            have k3 := (((HK5.out.again (below_keeps HWB.out _)).trans HK6.out).trans s2).mono (T := (· = fb)) (fun x hx hh => by
              rcases hh with (hh | hh) | hh
              · exact hh
              · omega
              · exact hh)
            exact ⟨_, _, s1, .inr (by rw [List.length_append]; exact o3), d3, k3⟩
        case rest =>
          obtain ⟨v', xs', c1, c2, c3, c4⟩ := hcut
          have P := Lib.hid (And.intro c1 (And.intro c2 (And.intro c3 c4)))
          clear c1 c2 c3 c4
          have hlt := HLT.out
          have hl4 := HLN.out
          go_wp2
          go_roundw
          case rel => exact ⟨k + 1, v', xs', HLT.out, by go_num, P.out.1, P.out.2.1, P.out.2.2.1, P.out.2.2.2⟩
          case measure => simp [intOf]; omega
      · obtain rfl : k = L.length := by omega
        rw [List.take_length] at hlds
        have hrow := row_of hown hlds (fun l hl => by rw [List.mem_map] at hl; obtain ⟨p, -, rfl⟩ := hl; intro c; cases c)
        have h6 := ws_keeps H4.out hK HB4.out rfl hlo
        have fx6 := FX4.out.trans (keeps_fx hK wTy true)
        have hfa : FindAt wr fb { f with word := s.val 2 } (L.map Ld.tag) := ⟨v, hbr, hrow⟩
        rw [HL.out] at hfa
        have P := Lib.hid (And.intro h6 (And.intro hfa fx6))
        clear hrow h6 fx6 hfa hbr hown hlds hK
        go_wp2
        go_ret
        exact ⟨rfl, P.out.1, P.out.2.1, P.out.2.2⟩
end Go.Proofs.YtmagpbbjjkmbpaaGreat

/-
  A Find: a place's load.
-/
namespace Go.Proofs.YtmagpbbjjkmbpaaGreat
open Go.RowKit Go.Maps TagPure
set_option linter.unusedVariables false

/-- Nothing more. -/
theorem step_append_zero {ops : Array Oper} {o : Oper} {a : Act} {w : World} {K : Act → World → Prop} {Q : Exit → Act → World → Prop} {E : Prop} (hgd : o.guard = none) (s x : Operand)
    (ho : o.op = .call { callee := .builtin .append, args := #[s, x], argTypes := #[222, 222] })
    (ao : Option Addr) (n cap : Nat) (hs : a.eval s = .slice ao n cap) (hc : n ≤ cap) (ad : Addr) (c : Nat) (hx : a.eval x = .slice (some ad) 0 c)
    (h : K (a.put o.dst (.slice ao n cap)) w) :
    if Region.wanted o (yielded ops a.tmps) = true then Oper.wp Tryz.prog o a w K Q else E := by
  obtain ⟨i0, hi0, hz0, hz1, hz2⟩ := info_parts info_ld
  have hw : Region.wanted o (yielded ops a.tmps) = true := by simp [Region.wanted, hgd]
  rw [if_pos hw]
  have hfc := run_firstCells_some (P := Tryz.prog) w i0.size 0 ad 0 c [] (by simp) (fun j u hj => by simp at hj)
  have hrun : (Builtin.append_ #[222, 222] o.type #[.slice ao n cap, .slice (some ad) 0 c]).run Tryz.prog w = .ok (.slice ao n cap) w := by
    cases ao with
    | none => simp [Builtin.append_, run_underlying Tryz.underlying222, sizeOf, typeInfo, hi0, Builtin.lenOf, hc, hfc]
    | some b =>
      simp [Builtin.append_, run_underlying Tryz.underlying222, sizeOf, typeInfo, hi0, Builtin.lenOf, hc, hfc]
      first | rfl | simp [storeCells] | simp [storeCells, Result.andThen]
  unfold Oper.wp
  simp [execOp, ho, resolve, invoke, builtin, hs, hx, hrun, Result.andThen]
  exact h
theorem row_vals {w : World} {fb c : Nat} {ad : Addr} {r : List Ld} (h : LeftRow w fb (.slice (some ad) r.length c) r) (hr : r ≠ []) :
    ∃ g o cur xs, ad = ⟨g, o, none⟩ ∧ w.heap[g]? = some (.cells cur 232 (0, 0)) ∧ Lds w fb xs r ∧ (∀ j u, xs[j]? = some u → cur[o + j]? = some u) ∧ ∀ u ∈ xs, u.oneCell' = true := by
  obtain ⟨a, c', e, h2, h3, -, h4 | ⟨g, o, cur, rfl, h5, h6⟩⟩ := h
  · exact absurd h4 hr
  · simp only [Value.slice.injEq, Option.some.injEq] at e
    obtain ⟨rfl, -, rfl⟩ := e
    have hx : ∀ j, j < r.length → ((cur.toList.drop o).take r.length)[j]? = cur[o + j]? := fun j hj => by rw [List.getElem?_take, if_pos hj, List.getElem?_drop, Array.getElem?_toList]
    have hl : ((cur.toList.drop o).take r.length).length = r.length := by
      have hr0 : 0 < r.length := List.length_pos_iff.2 hr
      obtain ⟨u, h7, -⟩ := h6 (r.length - 1) (by omega)
      have := (Array.getElem?_eq_some_iff.1 h7).1
      have e1 : cur.toList.length = cur.size := Array.length_toList
      rw [List.length_take, List.length_drop, e1]; omega
    refine ⟨g, o, cur, _, rfl, h5, ⟨hl, fun i hi => ?_⟩, fun j u hj => ?_, fun u hu => ?_⟩
    · obtain ⟨u, h7, h8⟩ := h6 i hi
      exact ⟨u, by rw [hx i hi]; exact h7, h8⟩
    · have hlt : j < r.length := by have := (List.getElem?_eq_some_iff.1 hj).1; omega
      rw [← hx j hlt]; exact hj
    · obtain ⟨j, hj, rfl⟩ := List.getElem_of_mem hu
      have hlt : j < r.length := by omega
      obtain ⟨u, h7, h8⟩ := h6 j hlt
      rw [← hx j hlt, List.getElem?_eq_getElem hj] at h7
      have := Option.some.inj h7
      rw [this]
      cases hq : r[j] with
      | tab => rw [hq] at h8; have h8 : u = _ := h8; subst h8; rfl
      | tag p => rw [hq] at h8; obtain ⟨xb, pb, rfl, -⟩ := h8; rfl
      | itm p n => rw [hq] at h8; obtain ⟨xb, pb, nb, rfl, -⟩ := h8; rfl
theorem lst_at {w : World} {base hc : Nat} {ha : Option Addr} {N : List Nat} (h : Lst w base (.slice ha N.length hc) N.length (cells N)) (k : Nat) (hk : k < N.length) : ∃ b off, ha = some ⟨b, off, none⟩ ∧ w.cell? ⟨b, off + k, none⟩ = some (.int .i64 ((N[k] : Nat) : Int)) := by
  obtain ⟨a, c, e, -, -, -, h0 | ⟨b, off, h1, h2⟩⟩ := h.rd
  · have : N = [] := by cases N with | nil => rfl | cons x l => simp [cells] at h0
    subst this; simp at hk
  · simp only [Value.slice.injEq] at e
    obtain ⟨rfl, -, -⟩ := e
    refine ⟨b, off, h1, ?_⟩
    rw [h2 k (by simp [cells]; exact hk)]
    simp [cells, hk]
theorem take_itm (p : Int × Int) (N : List Nat) (k : Nat) (h : k < N.length) : (N.take (k + 1)).map (fun (n : Nat) => Ld.itm p n) = (N.take k).map (fun (n : Nat) => Ld.itm p n) ++ [.itm p ((N[k] : Nat) : Int)] := by
  rw [List.take_add_one, List.getElem?_eq_getElem h, List.map_append]; rfl
theorem f_not_find (T : TypeId) (h : fTy T = true) : (T == 224) = false := by
  unfold fTy at h
  simp only [Bool.or_eq_true, beq_iff_eq] at h
  rcases h with ((rfl | rfl) | rfl) | rfl <;> rfl
theorem below_grown {w w' : World} (hg : w.grownBy w' none) : Below w.heap.size w w' := ⟨hg.os, hg.tape, hg.output, hg.size, fun k hk => hg.block k hk (fun c => by cases c)⟩
theorem Lds.app {w : World} {fb : Nat} {xs ys : List Value} {ls rs : List Ld} (h : Lds w fb xs ls) (hr : Lds w fb ys rs) : Lds w fb (xs ++ ys) (ls ++ rs) := by
  refine ⟨by simp [h.1, hr.1], fun i hi => ?_⟩
  by_cases hlt : i < ls.length
  · obtain ⟨v, h1, h2⟩ := h.2 i hlt
    exact ⟨v, by rw [List.getElem?_append_left (by rw [h.1]; exact hlt)]; exact h1, by rw [List.getElem_append_left hlt]; exact h2⟩
  · have hlt2 : i - ls.length < rs.length := by rw [List.length_append] at hi; omega
    obtain ⟨v, h1, h2⟩ := hr.2 _ hlt2
    exact ⟨v, by rw [List.getElem?_append_right (by rw [h.1]; omega), h.1]; exact h1, by rw [List.getElem_append_right (by omega)]; exact h2⟩
/-- A list of loads, clipped. -/
def Clp (w : World) (fb : Nat) (ao : Option Addr) (n : Nat) (xs : List Value) (ls : List Ld) : Prop := n = ls.length ∧ Lds w fb xs ls ∧ n ≤ maxLen ∧ ((ao = none ∧ n = 0) ∨ ∃ g cur, ao = some ⟨g, 0, none⟩ ∧ w.heap[g]? = some (.cells cur 232 (0, 0)) ∧ cur.toList.take n = xs)
theorem clp_of {w : World} {base fb n : Nat} {v : Value} {xs : List Value} {ls : List Ld} (h : w.ownsRow base 232 1 v n xs) (hl : Lds w fb xs ls) : ∃ ao cap, v = .slice ao n cap ∧ n ≤ cap ∧ cap ≤ maxLen ∧ Clp w fb ao n xs ls ∧ (ao = none → cap = 0) := by
  obtain ⟨h1, ⟨rfl, h0⟩ | ⟨g, cap, cur, rfl, hb, hg, hn, hm, hs, hx⟩⟩ := h
  · have e : n = ls.length := by have := hl.1; omega
    exact ⟨none, 0, by rw [h0], by omega, Nat.zero_le _, ⟨e, hl, by omega, .inl ⟨rfl, h0⟩⟩, fun _ => rfl⟩
  · have e : n = ls.length := by have := hl.1; omega
    exact ⟨_, cap, rfl, hn, hm, ⟨e, hl, Nat.le_trans hn hm, .inr ⟨g, cur, rfl, hg, by rw [Nat.mul_one] at hx; exact hx⟩⟩, fun c => by cases c⟩
theorem Clp.below {w w' : World} {fb n : Nat} {ao : Option Addr} {xs : List Value} {ls : List Ld} (h : Clp w fb ao n xs ls) (hb : Below w.heap.size w w') : Clp w' fb ao n xs ls := by
  obtain ⟨h1, h2, h3, h4 | ⟨g, cur, h4, h5, h6⟩⟩ := h
  · exact ⟨h1, h2.fr (below_fr hb (fun _ => false) false) (fun _ _ => rfl), h3, .inl h4⟩
  · exact ⟨h1, h2.fr (below_fr hb (fun _ => false) false) (fun _ _ => rfl), h3, .inr ⟨g, cur, h4, (hb.block _ (Array.getElem?_eq_some_iff.1 h5).1).trans h5, h6⟩⟩
theorem Clp.left {w : World} {fb n : Nat} {ao : Option Addr} {xs : List Value} {ls : List Ld} (h : Clp w fb ao n xs ls) (ht : ∀ l ∈ ls, l ≠ .tab) : LeftRow w fb (.slice ao n n) ls := by
  obtain ⟨rfl, h2, h3, ⟨h4, h0⟩ | ⟨g, cur, rfl, h5, h6⟩⟩ := h
  · exact ⟨ao, _, rfl, Nat.le_refl _, h3, .inr ht, .inl (List.eq_nil_of_length_eq_zero h0)⟩
  · refine ⟨_, _, rfl, Nat.le_refl _, h3, .inr ht, .inr ⟨g, 0, cur, rfl, h5, fun i hi => ?_⟩⟩
    obtain ⟨u, h7, h8⟩ := h2.2 i hi
    refine ⟨u, ?_, h8⟩
    rw [← h6, List.getElem?_take, if_pos hi, Array.getElem?_toList] at h7
    rw [Nat.zero_add]; exact h7
theorem Clp.olds {w : World} {fb n : Nat} {ao : Option Addr} {xs : List Value} {ls : List Ld} (h : Clp w fb ao n xs ls) : ∀ b, ao = some b → ∀ j u, xs[j]? = some u → w.cell? (b.add j) = some u := by
  obtain ⟨rfl, h2, h3, ⟨h4, h0⟩ | ⟨g, cur, rfl, h5, h6⟩⟩ := h
  · intro b c; rw [h4] at c; cases c
  · intro b c j u hj
    cases c
    have hlt : j < ls.length := by have h1 := (List.getElem?_eq_some_iff.1 hj).1; rw [h2.1] at h1; exact h1
    rw [← h6, List.getElem?_take, if_pos hlt, Array.getElem?_toList] at hj
    rw [Addr.add_lit, Nat.zero_add, hcell h5]; exact hj
abbrev TTag (fb xb pb wb cb : Nat) (k : ByteArray) (p : Int × Int) (W : World) : Prop := W.cell? ⟨xb, 0, none⟩ = some (.pointer (some ⟨fb, 0, none⟩)) ∧ W.cell? ⟨pb, 0, none⟩ = some (.int .i64 p.1) ∧ W.cell? ⟨pb, 1, none⟩ = some (.int .i64 p.2) ∧ W.cell? ⟨fb, 0, none⟩ = some (.string k) ∧ W.cell? ⟨wb, 0, none⟩ = some (.pointer (some ⟨cb, 0, none⟩))
/-- The blocks of a place's load. -/
structure TB (w0 w : World) (B : WB) (V : WV) (s : CS) (fb xb pb : Nat) (f : FW) (p : Int × Int) (v : Value) (r : List Ld) : Prop where
  ws : WS w0 w B V s
  fnd : w.heap[fb]? = some (.cells (f.cells v) 224 (0, 0))
  box : w.heap[xb]? = some (.cells #[.pointer (some ⟨fb, 0, none⟩)] 78 (0, 0))
  plc : w.heap[pb]? = some (.cells #[.int .i64 p.1, .int .i64 p.2] 41 (0, 0))
  row : LeftRow w fb v r
section
variable {w0 w w' : World} {B : WB} {V : WV} {s s' : CS} {fb xb pb : Nat} {f : FW} {p : Int × Int} {v : Value} {r : List Ld}
theorem TB.tt (h : TB w0 w B V s fb xb pb f p v r) : TTag fb xb pb B.wb B.cb f.key p w := ⟨hcell h.box 0, hcell h.plc 0, hcell h.plc 1, hcell h.fnd 0, h.ws.c0⟩
theorem TB.below (h : TB w0 w B V s fb xb pb f p v r) (hb : Below w.heap.size w w') : TB w0 w' B V s fb xb pb f p v r :=
  ⟨h.ws.keep hb, (hb.block _ (Array.getElem?_eq_some_iff.1 h.fnd).1).trans h.fnd, (hb.block _ (Array.getElem?_eq_some_iff.1 h.box).1).trans h.box, (hb.block _ (Array.getElem?_eq_some_iff.1 h.plc).1).trans h.plc, h.row.below hb⟩
theorem TB.fr (h : TB w0 w B V s fb xb pb f p v r) (h2 : WS w0 w' B V s') (hf : Fr wTy true w w') : TB w0 w' B V s' fb xb pb f p v r :=
  ⟨h2, hf.cells _ _ _ _ h.fnd rfl, hf.cells _ _ _ _ h.box rfl, hf.cells _ _ _ _ h.plc rfl, h.row.fr hf w_not_f⟩
end
theorem tags_end {w0 w : World} {B : WB} {V : WV} {s : CS} {fb xb pb : Nat} {f : FW} {p : Int × Int} {v v' : Value} {r ls : List Ld} (h : TB w0 w B V s fb xb pb f p v r) (hlo : w0.heap.size ≤ fb) (hrow : LeftRow w fb v' ls) :
    WS w0 (w.setCell ⟨fb, 1, none⟩ v') B V s ∧ FindAt (w.setCell ⟨fb, 1, none⟩ v') fb f ls ∧ Fx wTy true fb w (w.setCell ⟨fb, 1, none⟩ v') :=
  ⟨set_take (o := 1) h.ws h.fnd rfl hlo v', ⟨v', setCell_same h.fnd 1 v', hrow.fr (set_ty h.fnd 1 v') f_not_find⟩, set_fx _ _ _ _ _ _⟩
theorem tags_end2 {w0 w : World} {B : WB} {V : WV} {s : CS} {fb xb pb : Nat} {f : FW} {p : Int × Int} {v v' : Value} {r ls : List Ld} (h : TB w0 w B V s fb xb pb f p v r) (hlo : w0.heap.size ≤ fb) (hrow : LeftRow w fb v' ls) :
    WS w0 (w.setCell ⟨fb, 1, none⟩ v').drew B V s ∧ FindAt (w.setCell ⟨fb, 1, none⟩ v').drew fb f ls ∧ Fx wTy true fb w (w.setCell ⟨fb, 1, none⟩ v').drew := by
  obtain ⟨h1, h2, h3⟩ := tags_end h hlo hrow
  have hd := (Below.refl (w.setCell ⟨fb, 1, none⟩ v').heap.size (w.setCell ⟨fb, 1, none⟩ v')).drew
  exact ⟨h1.keep hd, h2.below hd, h3.trans ((below_fr hd wTy true).fx fb)⟩
theorem tags_row {wr w9 : World} {fb n base : Nat} {v : Value} {xs ys : List Value} {ls r : List Ld} (hx : Lds wr fb xs ls) (hy : Lds wr fb ys r) (hb : Below wr.heap.size wr w9) (hn : n = ls.length) (hown : w9.ownsRow base 232 1 v (n + r.length) (xs ++ ys)) (h1 : ∀ l ∈ ls, l ≠ .tab) (h2 : ∀ l ∈ r, l ≠ .tab) : LeftRow w9 fb v (ls ++ r) := by
  have hl : (xs ++ ys).length = n + r.length := by rw [List.length_append, hx.1, hy.1, hn]
  have hf := below_fr hb (fun _ => false) false
  exact row_of (.inr (by rw [hl]; exact hown)) ((hx.fr hf (fun _ _ => rfl)).app (hy.fr hf (fun _ _ => rfl))) (fun l hl => by rcases List.mem_append.1 hl with hl | hl; exact h1 l hl; exact h2 l hl)
set_option maxRecDepth 10000 in
set_option maxHeartbeats 2000000 in
theorem ftags {w0 w : World} {B : WB} {V : WV} {s : CS} {fb : Nat} {f : FW} (h : WS w0 w B V s) (hr : s.room) (hlo : w0.heap.size ≤ fb) (hk : f.key.size ≤ 1000000) (p : Int × Int) (ad : Addr) (c : Nat) (r : List Ld) (hr1 : r.length ≤ 1000) (ht : ∀ l ∈ r, l ≠ .tab)
    (hb : w.heap[fb]? = some (.cells (f.cells (.slice (some ad) r.length c)) 224 (0, 0))) (hrow : LeftRow w fb (.slice (some ad) r.length c) r) :
    Calls Tryz.prog 145 #[.pointer (some ⟨fb, 0, none⟩), .pointer (some ⟨B.wb, 0, none⟩), .agg #[.int .i64 p.1, .int .i64 p.2]] w fun e w' => e = .returned (.bool false) ∧ WS w0 w' B V (s.acc 1 (tagsA p.1 p.2) (s.val (tagsA p.1 p.2))) ∧
      FindAt w' fb f ((has (s.val (tagsA p.1 p.2)) (tag01 (hashOf f.key)) 4).map (fun (n : Nat) => Ld.itm p n) ++ r) ∧ Fx wTy true fb w w' := by
  obtain ⟨p1, p2⟩ := p
  have hba := below_alloc w (.cells #[.pointer (some ⟨fb, 0, none⟩)] 78)
  have hza := heap_alloc_new w (.cells #[.pointer (some ⟨fb, 0, none⟩)] 78)
  have hbc := below_alloc (w.alloc (.cells #[.pointer (some ⟨fb, 0, none⟩)] 78)) (.cells #[.int .i64 p1, .int .i64 p2] 41)
  have hzc := heap_alloc_new (w.alloc (.cells #[.pointer (some ⟨fb, 0, none⟩)] 78)) (.cells #[.int .i64 p1, .int .i64 p2] 41)
  have hbd := hba.trans (hbc.mono hba.size)
  have hxb : (w.alloc (.cells #[.pointer (some ⟨fb, 0, none⟩)] 78)).heap.size = w.heap.size + 1 := by simp
  rw [hxb] at hzc
  have htb : TB w0 _ B V s fb w.heap.size (w.heap.size + 1) f (p1, p2) (.slice (some ad) r.length c) r := ⟨h.keep hbd, (hbd.block _ (Array.getElem?_eq_some_iff.1 hb).1).trans hb, heap_alloc_old hza, hzc, hrow.below hbd⟩
  have TB1 := Lib.hid htb; have F1 := Lib.hid ((below_fr hbd wTy true).fx fb)
  have HWF := Lib.hid (h.own.wf (tagsA p1 p2)); have HK := Lib.hid hk; have HR := Lib.hid hr; have HR1 := Lib.hid hr1; have HT := Lib.hid ht
  have HTA := Lib.hid (tagsA_wf p1 p2)
  have HTG := Lib.hid (fun W => tags_any p1 p2 W)
  have HLN := Lib.hid (has_le (s.val (tagsA p1 p2)) (tag01 (hashOf f.key)) 4)
  clear h hr hk hr1 ht hb hrow hba hza hbc hzc hbd hxb htb
  have HH := Lib.hid (fun W => hash_any f.key HK.out W)
  have HTN := Lib.hid (fun W => tag_fn (hashOf f.key) (hfold_bd _ _).1 (hfold_bd _ _).2 W)
  have htn : tag01 (hashOf f.key) ≠ 0 := by have := tag01_bd (hashOf f.key) (hfold_bd _ _).1 (hfold_bd _ _).2; omega
  have hwb : 0 ≤ s.val (tagsA p1 p2) ∧ s.val (tagsA p1 p2) < 18446744073709551616 := wf_bd HWF.out
  have HHS := Lib.hid (fun W => has_any (s.val (tagsA p1 p2)) (tag01 (hashOf f.key)) W hwb.1 hwb.2 htn)
  clear htn hwb
  obtain ⟨N, hN⟩ : ∃ N, N = has (s.val (tagsA p1 p2)) (tag01 (hashOf f.key)) 4 := ⟨_, rfl⟩
  rw [← hN] at HHS HLN
  have HNN := Lib.hid hN
  clear hN
  show Calls _ _ #[_, _, .agg #[.int .i64 p1, .int .i64 p2]] _ _
  go_enter Tryz.func145, Tryz.ntmps145
  go_upto_region 2 with (fail)
  change Code.wp _ _ _ _ ((w.alloc (.cells #[.pointer (some ⟨fb, 0, none⟩)] 78)).alloc (.cells #[.int .i64 p1, .int .i64 p2] 41))
  generalize (w.alloc (.cells #[.pointer (some ⟨fb, 0, none⟩)] 78)).alloc (.cells #[.int .i64 p1, .int .i64 p2] 41) = w1 at *
  generalize w.heap.size = xb at *
  have hs1 : TTag fb xb (xb + 1) B.wb B.cb f.key (p1, p2) w1.drew := (TB1.out.below (Below.refl _ _).drew).tt
  go_region_held2 (fun W => TTag fb xb (xb + 1) B.wb B.cb f.key (p1, p2) W) (assumption) (first
    | (go_at_call 134; refine (HTG.out _).mono ?_; intro e w2 hh; obtain ⟨hh1, b2⟩ := hh; subst hh1; have b2' := (Below.refl w1.heap.size w1).drew.trans b2; have TB2 := Lib.hid (TB1.out.below b2'); have F2 := Lib.hid (F1.out.trans ((below_fr b2' wTy true).fx fb)); have s2 := TB2.out.tt; have hld := TB2.out.ws.load HR.out (tagsA p1 p2) HTA.out; clear b2 b2' hs1 TB1 F1)
    | (go_at_call 143; refine hld.mono ?_; intro e w3 hh; obtain ⟨hh1, h3, f3⟩ := hh; subst hh1; have TB3 := Lib.hid (TB2.out.fr h3 f3); have F3 := Lib.hid (F2.out.trans (f3.fx fb)); have s3 := TB3.out.tt; clear h3 f3 hld s2 TB2 F2)
    | (go_at_call 20; refine (HH.out _).mono ?_; intro e w4 hh; obtain ⟨hh1, b4⟩ := hh; subst hh1; have TB4 := Lib.hid (TB3.out.below b4); have F4 := Lib.hid (F3.out.trans ((below_fr b4 wTy true).fx fb)); have s4 := TB4.out.tt; clear b4 s3 TB3 F3)
    | (go_at_call 26; refine (HTN.out _).mono ?_; intro e w5 hh; obtain ⟨hh1, hh2⟩ := hh; subst hh1; obtain rfl := hh2.symm)
    | (go_at_call 187; refine (HHS.out _).mono ?_; intro e w6 hh; obtain ⟨hv, hh1, hl6, b6⟩ := hh; subst hh1; obtain ⟨ha, hc, rfl, hl7⟩ := hl6.rd; have TB6 := Lib.hid (TB4.out.below b6); have F6 := Lib.hid (F4.out.trans ((below_fr b6 wTy true).fx fb)); have s6 := TB6.out.tt; have HL6 := Lib.hid hl6; clear b6 hl6 hl7 s4 TB4 F4))
  have HF6 := Lib.hid (And.intro HLN.out HL6.out)
  clear s6 HLN HL6 HTG HH HTN HHS
  obtain ⟨i0, hi0, hz0, hz1, hz2⟩ := info_parts info_ld
  have HI := Lib.hid hi0; have HZ0 := Lib.hid hz0; have HZ1 := Lib.hid hz1; have HZ2 := Lib.hid hz2
  clear hi0 hz0 hz1 hz2
  go_wp2_with fail
  go_loopw [7, 25] (fun v i wr => ∃ (k : Nat) (xs : List Value), k ≤ N.length ∧ i = .int .i64 k ∧ wr.ownsRow w6.heap.size 232 1 v k xs ∧ Lds wr fb xs ((N.take k).map (fun (n : Nat) => Ld.itm (p1, p2) n)) ∧ Below w6.heap.size w6 wr) (fun _ i _ => N.length - (intOf i).toNat)
  case atStart => exact ⟨0, [], by omega, rfl, World.ownsRow_nil _ _ _ _, ⟨rfl, fun i hi => absurd hi (by simp)⟩, Below.refl _ _⟩
  case round =>
    obtain ⟨k, xs, hk, rfl, hown, hlds, hB⟩ := hrel
    have hN4 := HF6.out.1
    by_cases hlt : k < N.length
    · have hlt' : (k : Int) < N.length := by omega
      obtain ⟨b0, off, rfl, g0⟩ := lst_at (HF6.out.2.below hB (Nat.le_refl _)) k hlt
      have htk := take_itm (p1, p2) N k hlt
      generalize hn : ((N[k]'hlt : Nat) : Int) = n at *
      have hba := below_alloc wr (.cells #[.int .i64 n] 3)
      have hza := heap_alloc_new wr (.cells #[.int .i64 n] 3)
      have hB7 := hB.trans (hba.mono hB.size)
      have hown7 := own_below hown hba
      have hlds7 := hlds.fr (below_fr hba (fun _ => false) false) (fun _ _ => rfl)
      have HTK := Lib.hid htk; have HLT := Lib.hid hlt; have HB7 := Lib.hid hB7; have HOW := Lib.hid hown7; have HLD := Lib.hid hlds7; have HZA := Lib.hid hza; have HBZ := Lib.hid hB.size
      clear htk hba hza hB hB7 hown hown7 hlds hlds7 hn
      go_upto_region 5 with (fail)
      change Code.wp _ _ _ _ (wr.alloc (.cells #[.int .i64 n] 3))
      clear g0
      generalize wr.alloc (.cells #[.int .i64 n] 3) = w7 at *
      generalize wr.heap.size = nb at *
      have HWB : Hid (Below w7.heap.size w7 (w7.alloc (.cells #[.func (.func 188) #[] #[.pointer (some ⟨xb, 0, none⟩), .pointer (some ⟨xb + 1, 0, none⟩), .pointer (some ⟨nb, 0, none⟩)]] 232))) := below_alloc _ _
      have hsz7 := HB7.out.size
      go_wp2_with (at_builtin; refine wpList_append_own _ rfl _ _ 222 rfl w6.heap.size 232 i0 .nilFunc 1 8 Tryz.underlying222 HI.out HZ0.out HZ1.out HZ2.out rfl (by decide) _ _ _ rfl (HOW.out.alloc _) ⟨w7.heap.size, 0, none⟩ 1 1 [.func (.func 188) #[] #[.pointer (some ⟨xb, 0, none⟩), .pointer (some ⟨xb + 1, 0, none⟩), .pointer (some ⟨nb, 0, none⟩)]] rfl rfl ?c1 ?c2 ?c3 ?c4 ?c5 ?_)
      case c1 => exact cell_one_new _ _ _
      case c2 => simp [Value.oneCell']
      case c3 => unfold maxLen; omega
      case c4 => omega
      case c5 => simp; omega
      intro v' w8 hown' hgrow _
      have hb8 := HB7.out.trans (HWB.out.mono HB7.out.size)
      have hb9 := hb8.grown hgrow hb8.size (fun j hj => (HOW.out.lt j hj).1)
      have f8 := grown_ty (HOW.out.alloc _) hgrow
      have f7 := below_fr HWB.out (fun _ => false) false
      have d1 := lds_fr2 (HLD.out.fr f7 (fun _ _ => rfl)) f8 rfl rfl rfl
      have tb8 := TB6.out.below hb9
      have d2 : LdAt w8 fb (.func (.func 188) #[] #[.pointer (some ⟨xb, 0, none⟩), .pointer (some ⟨xb + 1, 0, none⟩), .pointer (some ⟨nb, 0, none⟩)]) (.itm (p1, p2) n) :=
        ⟨xb, xb + 1, nb, rfl, tb8.box, tb8.plc, f8.cells _ _ _ _ (f7.cells _ _ _ _ HZA.out rfl) rfl⟩
      have d3 := d1.snoc d2
      rw [← HTK.out] at d3
      have P := Lib.hid (And.intro hown' (And.intro d3 hb9))
      clear hown' hgrow hb8 hb9 f8 f7 d1 tb8 d2 d3
      go_wp2
      go_roundw
      case rel => exact ⟨k + 1, _, HLT.out, by go_num, P.out.1, P.out.2.1, P.out.2.2⟩
      case measure => simp [intOf]; omega
    · obtain rfl : k = N.length := by omega
      rw [List.take_length] at hlds
      obtain ⟨ao, cap, rfl, hcp1, hcp2, hclp, hcp0⟩ := clp_of hown hlds
      have htb := TB6.out.below hB
      have hf7 := F6.out.trans ((below_fr hB wTy true).fx fb)
      have htt : ∀ l ∈ N.map (fun (n : Nat) => Ld.itm (p1, p2) n), l ≠ .tab := fun l hl => by rw [List.mem_map] at hl; obtain ⟨n, -, rfl⟩ := hl; intro c; cases c
      have TBR := Lib.hid htb; have FR := Lib.hid hf7; have CLP := Lib.hid hclp; have HTT := Lib.hid htt; have HC0 := Lib.hid hcp0
      clear htb hf7 htt hown hlds hB TB6 F6 hclp hcp0
      unfold maxLen at hcp2
      go_upto_region 7 with (fail)
      go_cut [] (fun wx => WS w0 wx B V (s.acc 1 (tagsA p1 p2) (s.val (tagsA p1 p2))) ∧ FindAt wx fb f (N.map (fun (n : Nat) => Ld.itm (p1, p2) n) ++ r) ∧ Fx wTy true fb w wx)
      case first =>
        have x0 : wr.cell? ⟨xb, 0, none⟩ = some (.pointer (some ⟨fb, 0, none⟩)) := hcell TBR.out.box 0
        have x1 : wr.cell? ⟨fb, 1, none⟩ = some (.slice (some ad) r.length c) := hcell TBR.out.fnd 1
        have x2 := hfrz TBR.out.fnd 1
        by_cases hr0 : r = []
        · subst hr0
          have x1 : wr.cell? ⟨fb, 1, none⟩ = some (.slice (some ad) 0 c) := hcell TBR.out.fnd 1
          clear x2
          have x2 : wr.frozen? ⟨fb, 1, none⟩ = false := hfrz TBR.out.fnd 1
          rcases CLP.out.2.2.2 with ⟨rfl, h0⟩ | ⟨g, cur, rfl, -, -⟩
          · obtain rfl : cap = 0 := HC0.out rfl
            obtain rfl : N = [] := List.eq_nil_of_length_eq_zero h0
            clear h0
            go_region_law ((refine step_append_zero (by rfl) _ _ (by rfl) none 0 0 (by rfl) (Nat.le_refl _) ad c (by rfl) ?_))
            all_goals (try go_wp2_with fail)
            all_goals go_meet
            all_goals
              have he := tags_end2 TBR.out hlo (CLP.out.left HTT.out)
              exact ⟨he.1, by rw [List.append_nil]; exact he.2.1, FR.out.trans he.2.2⟩
          · go_region_law ((refine step_append_zero (by rfl) _ _ (by rfl) (some ⟨g, 0, none⟩) N.length N.length (by rfl) (Nat.le_refl _) ad c (by rfl) ?_))
            all_goals (try go_wp2_with fail)
            all_goals go_meet
            all_goals
              have he := tags_end2 TBR.out hlo (CLP.out.left HTT.out)
              exact ⟨he.1, by rw [List.append_nil]; exact he.2.1, FR.out.trans he.2.2⟩
        · obtain ⟨g2, o2, cur2, ys, rfl, hg2, hys, hyc, hy1⟩ := row_vals TBR.out.row hr0
          have hrp : 0 < r.length := List.length_pos_iff.2 hr0
          have hr1 := HR1.out
          have HYN : Hid (ys.length = r.length * 1) := by show _ = _; rw [Nat.mul_one]; exact hys.1
          have HNW : Hid (∀ j u, ys[j]? = some u → wr.cell? ((⟨g2, o2, none⟩ : Addr).add j) = some u) := fun j u hj => by rw [Addr.add_lit, hcell hg2]; exact hyc j u hj
          have HY1 := Lib.hid hy1; have HYS := Lib.hid hys
          clear hy1 hys hyc hg2 hr0
          have hrz : r.length ≠ 0 := by omega
          rcases CLP.out.2.2.2 with ⟨rfl, h0⟩ | ⟨g, cur, rfl, -, -⟩
          · obtain rfl : cap = 0 := HC0.out rfl
            obtain rfl : N = [] := List.eq_nil_of_length_eq_zero h0
            clear h0
            have hxs : xs = [] := by have := CLP.out.2.1.1; exact List.eq_nil_of_length_eq_zero this
            subst hxs
            have HFU : Hid (0 < 0 + r.length) := by show 0 < 0 + r.length; omega
            have HM : Hid (0 + r.length ≤ maxLen ∧ (0 + r.length) * 8 ≤ 140737488355328) := ⟨by unfold maxLen; omega, by omega⟩
            clear hrp hr1
            go_region_law ((refine step_append_grows (by rfl) _ _ _ (by rfl) 232 i0 _ 1 8 Tryz.underlying222 HI.out HZ0.out HZ1.out HZ2.out rfl (by decide) none 0 0 [] (by rfl) (fun _ => ⟨rfl, rfl⟩) rfl (fun b c => by cases c) ⟨g2, o2, none⟩ r.length c ys (by rfl) HYN.out HNW.out HY1.out HFU.out HM.out.1 HM.out.2 ?_); intro v' w9 hown9 hg9; obtain ⟨g9, cap9, y9, rfl, -, -, -⟩ := own_at hown9 0 HFU.out; have b9 := (Below.refl wr.heap.size wr).drew.trans (below_grown hg9); have tb9 := TBR.out.below b9; have t0 : w9.cell? ⟨xb, 0, none⟩ = some (.pointer (some ⟨fb, 0, none⟩)) := hcell tb9.box 0; have t1 : w9.cell? ⟨fb, 1, none⟩ = some (.slice (some ⟨g2, o2, none⟩) r.length c) := hcell tb9.fnd 1; have t2 : w9.frozen? ⟨fb, 1, none⟩ = false := hfrz tb9.fnd 1; have B9 := Lib.hid b9; have TB9 := Lib.hid tb9; have HO9 := Lib.hid hown9; clear hown9 hg9 b9 tb9)
            all_goals (try go_wp2_with fail)
            all_goals go_meet
            all_goals
              have he := tags_end TB9.out hlo (tags_row CLP.out.2.1 HYS.out B9.out CLP.out.1 HO9.out HTT.out HT.out)
              simp only [Nat.zero_add] at he
              exact ⟨he.1, he.2.1, (FR.out.trans ((below_fr B9.out wTy true).fx fb)).trans he.2.2⟩
          · have HFU : Hid (0 < N.length + r.length) := by show 0 < N.length + r.length; omega
            have HM : Hid (N.length + r.length ≤ maxLen ∧ (N.length + r.length) * 8 ≤ 140737488355328) := ⟨by unfold maxLen; omega, by omega⟩
            have HFL : Hid (N.length < N.length + r.length) := by show N.length < N.length + r.length; omega
            have HXN : Hid (xs.length = N.length * 1) := by show _ = _; rw [Nat.mul_one, CLP.out.2.1.1, List.length_map]
            have HOL := Lib.hid CLP.out.olds
            clear hrp hr1
            go_region_law ((refine step_append_grows (by rfl) _ _ _ (by rfl) 232 i0 _ 1 8 Tryz.underlying222 HI.out HZ0.out HZ1.out HZ2.out rfl (by decide) (some ⟨g, 0, none⟩) N.length N.length xs (by rfl) (fun c => by cases c) HXN.out HOL.out ⟨g2, o2, none⟩ r.length c ys (by rfl) HYN.out HNW.out HY1.out HFL.out HM.out.1 HM.out.2 ?_); intro v' w9 hown9 hg9; obtain ⟨g9, cap9, y9, rfl, -, -, -⟩ := own_at hown9 0 HFU.out; have b9 := (Below.refl wr.heap.size wr).drew.trans (below_grown hg9); have tb9 := TBR.out.below b9; have t0 : w9.cell? ⟨xb, 0, none⟩ = some (.pointer (some ⟨fb, 0, none⟩)) := hcell tb9.box 0; have t1 : w9.cell? ⟨fb, 1, none⟩ = some (.slice (some ⟨g2, o2, none⟩) r.length c) := hcell tb9.fnd 1; have t2 : w9.frozen? ⟨fb, 1, none⟩ = false := hfrz tb9.fnd 1; have B9 := Lib.hid b9; have TB9 := Lib.hid tb9; have HO9 := Lib.hid hown9; clear hown9 hg9 b9 tb9)
            all_goals (try go_wp2_with fail)
            all_goals go_meet
            all_goals
              have he := tags_end TB9.out hlo (tags_row CLP.out.2.1 HYS.out B9.out CLP.out.1 HO9.out HTT.out HT.out)
              exact ⟨he.1, he.2.1, (FR.out.trans ((below_fr B9.out wTy true).fx fb)).trans he.2.2⟩
      case rest =>
        obtain ⟨c1, c2, c3⟩ := hcut
        rw [HNN.out] at c2
        have P := Lib.hid (And.intro c1 (And.intro c2 c3))
        clear c1 c2 c3
        go_wp2
        go_ret
        exact ⟨rfl, P.out.1, P.out.2.1, P.out.2.2⟩
end Go.Proofs.YtmagpbbjjkmbpaaGreat

/-
  A Find: a slot's load.
-/
namespace Go.Proofs.YtmagpbbjjkmbpaaGreat
open Go.RowKit Go.Maps TagPure
set_option linter.unusedVariables false

theorem key_ne {x y : ByteArray} (h : x ≠ y) : (x.toList == y.toList) = false := by
  rw [← Bool.not_eq_true, beq_iff_eq, ByteArray.toList_eq, ByteArray.toList_eq]
  exact fun c => h (ByteArray.ext (Array.toList_inj.mp c))
abbrev TItm (sb wb cb : Nat) (p : Int × Int) (n : Int) (W : World) : Prop := W.cell? ⟨sb, 0, none⟩ = some (.int .i64 p.1) ∧ W.cell? ⟨sb, 1, none⟩ = some (.int .i64 p.2) ∧ W.cell? ⟨sb, 2, none⟩ = some (.int .i64 n) ∧ W.cell? ⟨wb, 0, none⟩ = some (.pointer (some ⟨cb, 0, none⟩))
structure IB (w0 w : World) (B : WB) (V : WV) (s : CS) (fb sb : Nat) (f : FW) (p : Int × Int) (n : Int) (v : Value) (r : List Ld) : Prop where
  ws : WS w0 w B V s
  fnd : w.heap[fb]? = some (.cells (f.cells v) 224 (0, 0))
  spt : w.heap[sb]? = some (.cells #[.int .i64 p.1, .int .i64 p.2, .int .i64 n] 43 (0, 0))
  row : LeftRow w fb v r
section
variable {w0 w w' : World} {B : WB} {V : WV} {s s' : CS} {fb sb : Nat} {f : FW} {p : Int × Int} {n : Int} {v : Value} {r : List Ld}
theorem IB.tt (h : IB w0 w B V s fb sb f p n v r) : TItm sb B.wb B.cb p n w := ⟨hcell h.spt 0, hcell h.spt 1, hcell h.spt 2, h.ws.c0⟩
theorem IB.below (h : IB w0 w B V s fb sb f p n v r) (hb : Below w.heap.size w w') : IB w0 w' B V s fb sb f p n v r :=
  ⟨h.ws.keep hb, (hb.block _ (Array.getElem?_eq_some_iff.1 h.fnd).1).trans h.fnd, (hb.block _ (Array.getElem?_eq_some_iff.1 h.spt).1).trans h.spt, h.row.below hb⟩
theorem IB.fr (h : IB w0 w B V s fb sb f p n v r) (h2 : WS w0 w' B V s') (hf : Fr wTy true w w') : IB w0 w' B V s' fb sb f p n v r :=
  ⟨h2, hf.cells _ _ _ _ h.fnd rfl, hf.cells _ _ _ _ h.spt rfl, h.row.fr hf w_not_f⟩
end
theorem find_set {w0 w : World} {B : WB} {V : WV} {s : CS} {fb : Nat} {v : Value} {cs : Array Value} {r : List Ld} (h : WS w0 w B V s) (hb : w.heap[fb]? = some (.cells cs 224 (0, 0))) (hrow : LeftRow w fb v r) (hlo : w0.heap.size ≤ fb) (o : Nat) (x : Value) :
    WS w0 (w.setCell ⟨fb, o, none⟩ x) B V s ∧ (w.setCell ⟨fb, o, none⟩ x).heap[fb]? = some (.cells (cs.setIfInBounds o x) 224 (0, 0)) ∧ LeftRow (w.setCell ⟨fb, o, none⟩ x) fb v r ∧ Fx wTy true fb w (w.setCell ⟨fb, o, none⟩ x) :=
  ⟨set_take (o := o) h hb rfl hlo x, setCell_same hb o x, hrow.fr (set_ty hb o x) f_not_find, set_fx _ _ _ _ _ _⟩
set_option maxRecDepth 10000 in
set_option maxHeartbeats 2000000 in
theorem fitem {w0 w : World} {B : WB} {V : WV} {s : CS} {fb : Nat} {f : FW} (h : WS w0 w B V s) (hr : s.room) (hlo : w0.heap.size ≤ fb) (hl : V.its.length ≤ 1048576) (p : Int × Int) (n : Int) (hn : (Lit.int .i64 n).wf = true) (r : List Ld) (hfd : FindAt w fb f r) :
    Calls Tryz.prog 189 #[.pointer (some ⟨fb, 0, none⟩), .pointer (some ⟨B.wb, 0, none⟩), .agg #[.int .i64 p.1, .int .i64 p.2, .int .i64 n]] w fun e w' => ∃ d, e = .returned (.bool d) ∧ d = ((atOf V.its (wrap64 (s.val (itemA p.1 p.2 n)))).2 && decide ((atOf V.its (wrap64 (s.val (itemA p.1 p.2 n)))).1.key = f.key)) ∧
      WS w0 w' B V (s.acc 1 (itemA p.1 p.2 n) (s.val (itemA p.1 p.2 n))) ∧ FindAt w' fb (if d = true then { f with b := p.1, u := p.2, k := n, ref := wrap64 (s.val (itemA p.1 p.2 n)) } else f) r ∧ Fx wTy true fb w w' := by
  obtain ⟨p1, p2⟩ := p
  obtain ⟨v, hb, hrow⟩ := hfd
  have hba := below_alloc w (.cells #[.int .i64 p1, .int .i64 p2, .int .i64 n] 43)
  have hza := heap_alloc_new w (.cells #[.int .i64 p1, .int .i64 p2, .int .i64 n] 43)
  have hib : IB w0 _ B V s fb w.heap.size f (p1, p2) n v r := ⟨h.keep hba, (hba.block _ (Array.getElem?_eq_some_iff.1 hb).1).trans hb, hza, hrow.below hba⟩
  have IB1 := Lib.hid hib; have F1 := Lib.hid ((below_fr hba wTy true).fx fb)
  have HR := Lib.hid hr; have HTA := Lib.hid (itemA_wf p1 p2 n); have HLL := Lib.hid hl
  have HTG := Lib.hid (fun W => item_any p1 p2 n hn W)
  clear h hr hb hrow hba hza hib hl hn
  show Calls _ _ #[_, _, .agg #[.int .i64 p1, .int .i64 p2, .int .i64 n]] _ _
  go_enter Tryz.func189, Tryz.ntmps189
  go_upto_region 1 with (fail)
  change Code.wp _ _ _ _ (w.alloc (.cells #[.int .i64 p1, .int .i64 p2, .int .i64 n] 43))
  generalize w.alloc (.cells #[.int .i64 p1, .int .i64 p2, .int .i64 n] 43) = w1 at *
  generalize w.heap.size = sb at *
  obtain ⟨ref, hrf⟩ : ∃ ref, ref = wrap64 (s.val (itemA p1 p2 n)) := ⟨_, rfl⟩
  have HRF := Lib.hid hrf
  clear hrf
  go_cut [7] (fun v7 wx => v7 = .int .i64 ref ∧ IB w0 wx B V (s.acc 1 (itemA p1 p2 n) (s.val (itemA p1 p2 n))) fb sb f (p1, p2) n v r ∧ Fx wTy true fb w wx)
  case first =>
    have hs1 : TItm sb B.wb B.cb (p1, p2) n w1.drew := (IB1.out.below (Below.refl _ _).drew).tt
    go_region_held2 (fun W => TItm sb B.wb B.cb (p1, p2) n W) (assumption) (first
      | (go_at_call 135; refine (HTG.out _).mono ?_; intro e w2 hh; obtain ⟨hh1, b2⟩ := hh; subst hh1; have b2' := (Below.refl w1.heap.size w1).drew.trans b2; have IB2 := Lib.hid (IB1.out.below b2'); have F2 := Lib.hid (F1.out.trans ((below_fr b2' wTy true).fx fb)); have s2 := IB2.out.tt; have hld := IB2.out.ws.load HR.out (itemA p1 p2 n) HTA.out; clear b2 b2' hs1 IB1 F1)
      | (go_at_call 143; refine hld.mono ?_; intro e w3 hh; obtain ⟨hh1, h3, f3⟩ := hh; subst hh1; have IB3 := Lib.hid (IB2.out.fr h3 f3); have F3 := Lib.hid (F2.out.trans (f3.fx fb)); have s3 := IB3.out.tt; clear h3 f3 hld s2 IB2 F2))
    all_goals (try go_wp2_with fail)
    all_goals go_meet
    all_goals exact ⟨congrArg (Value.int IntKind.i64) ((IntWalk.i64_left _).trans HRF.out.symm), IB3.out, F3.out⟩
  case rest =>
    obtain ⟨rfl, hib2, fx2⟩ := hcut
    clear IB1 F1 HTG
    have hat := hib2.ws.iat5 HLL.out ref
    have x1 := hib2.ws.hd5.2.1
    obtain ⟨it, hit⟩ : ∃ it, it = (atOf V.its ref).1 := ⟨_, rfl⟩
    obtain ⟨is, his⟩ : ∃ is, is = (atOf V.its ref).2 := ⟨_, rfl⟩
    rw [← hit, ← his] at hat
    have HIT := Lib.hid hit; have HIS := Lib.hid his; have IB2 := Lib.hid hib2; have F2 := Lib.hid fx2
    clear hit his hib2 fx2
    go_upto_region 3 with (go_at_call 47; refine hat.mono ?_; intro e w4 hh; obtain ⟨hh1, b4⟩ := hh; subst hh1; have IB4 := Lib.hid (IB2.out.below b4); have F4 := Lib.hid (F2.out.trans ((below_fr b4 wTy true).fx fb)); clear b4 hat x1 IB2 F2)
    change Code.wp _ _ _ _ (w4.alloc (.cells it.cells.toArray 52))
    have hb5 := below_alloc w4 (.cells it.cells.toArray 52)
    have hz5 := heap_alloc_new w4 (.cells it.cells.toArray 52)
    have IB5 := Lib.hid (IB4.out.below hb5); have F5 := Lib.hid (F4.out.trans ((below_fr hb5 wTy true).fx fb)); have HZ5 := Lib.hid hz5
    clear hb5 hz5 IB4 F4
    generalize w4.alloc (.cells it.cells.toArray 52) = w5 at *
    generalize w4.heap.size = tb at *
    obtain ⟨d, hd⟩ : ∃ d, d = (is && decide (it.key = f.key)) := ⟨_, rfl⟩
    have HD := Lib.hid hd
    clear hd
    go_cut [37] (fun v37 wx => v37 = .bool (!d) ∧ IB w0 wx B V (s.acc 1 (itemA p1 p2 n) (s.val (itemA p1 p2 n))) fb sb f (p1, p2) n v r ∧ Fx wTy true fb w wx)
    case first =>
      have c0 : w5.cell? ⟨tb, 0, none⟩ = some (.string it.key) := hcell HZ5.out 0
      have c1 : w5.cell? ⟨fb, 0, none⟩ = some (.string f.key) := hcell IB5.out.fnd 0
      have hdr : Below w5.heap.size w5 w5.drew := (Below.refl _ _).drew
      have IB6 := Lib.hid (IB5.out.below hdr); have F6 := Lib.hid (F5.out.trans ((below_fr hdr wTy true).fx fb))
      clear hdr
      cases is
      · go_region
        all_goals (try go_wp2_with fail)
        all_goals go_meet
        all_goals exact ⟨by rw [HD.out]; rfl, IB6.out, F6.out⟩
      · by_cases hke : it.key = f.key
        · rw [hke] at c0
          have HKE := Lib.hid hke
          clear hke
          go_region
          all_goals (try go_wp2_with fail)
          all_goals go_meet
          all_goals exact ⟨by rw [HD.out, decide_eq_true HKE.out]; rfl, IB6.out, F6.out⟩
        · have HKE := Lib.hid hke
          have kn := key_ne hke
          clear hke
          go_region
          all_goals (try go_wp2_with fail)
          all_goals go_meet
          all_goals exact ⟨by rw [HD.out, decide_eq_false HKE.out]; rfl, IB6.out, F6.out⟩
    case rest =>
      obtain ⟨rfl, hib6, fx6⟩ := hcut
      rw [HIS.out, HIT.out, HRF.out] at HD
      have HIB6 := Lib.hid hib6; have HF6 := Lib.hid fx6
      clear hib6 fx6 IB5 F5 HZ5
      cases d
      · go_wp2
        go_ret
        exact ⟨false, rfl, HD.out, HIB6.out.ws, ⟨v, HIB6.out.fnd, HIB6.out.row⟩, HF6.out⟩
      · have c0 := hcell HIB6.out.spt 0
        have c1 := hcell HIB6.out.spt 1
        have c2 := hcell HIB6.out.spt 2
        obtain ⟨e0, e1, e2, e3, e4, e5, e6⟩ := fw_cells HIB6.out.fnd
        have e7 := hfrz HIB6.out.fnd
        go_wp2
        obtain ⟨h1, b1, r1, f1⟩ := find_set HIB6.out.ws HIB6.out.fnd HIB6.out.row hlo 3 (.int .i64 p1)
        obtain ⟨h2, b2, r2, f2⟩ := find_set h1 b1 r1 hlo 4 (.int .i64 p2)
        obtain ⟨h3, b3, r3, f3⟩ := find_set h2 b2 r2 hlo 5 (.int .i64 n)
        obtain ⟨h4, b4, r4, f4⟩ := find_set h3 b3 r3 hlo 6 (.int .i64 ref)
        have hd := HD.out
        have hrf := HRF.out
        go_ret
        exact .inr ⟨rfl, by rw [eq_comm, Bool.and_eq_true, decide_eq_true_eq] at hd; exact hd, h4, ⟨v, by rw [← hrf]; exact b4, r4⟩, (((HF6.out.trans f1).trans f2).trans f3).trans f4⟩
end Go.Proofs.YtmagpbbjjkmbpaaGreat

/-
  A Find's step.
-/
namespace Go.Proofs.YtmagpbbjjkmbpaaGreat
open Go.RowKit Go.Maps TagPure
set_option linter.unusedVariables false

def LdOk : Ld → Prop
  | .itm _ n => (Lit.int .i64 n).wf = true
  | _ => True
def hit (its : List Itm) (s : CS) (key : ByteArray) (p : Int × Int) (n : Int) : Bool := (atOf its (wrap64 (s.val (itemA p.1 p.2 n)))).2 && decide ((atOf its (wrap64 (s.val (itemA p.1 p.2 n)))).1.key = key)
/-- A step's find, and what is left. -/
def fnext (its : List Itm) (s : CS) (f : FW) (r : List Ld) : Ld → FW × List Ld
  | .tab => ({ f with word := s.val 2 }, (plist (hashOf f.key) (s.val 2)).map Ld.tag)
  | .tag p => (f, (has (s.val (tagsA p.1 p.2)) (tag01 (hashOf f.key)) 4).map (fun (n : Nat) => Ld.itm p n) ++ r)
  | .itm p n => if hit its s f.key p n = true then ({ f with b := p.1, u := p.2, k := n, ref := wrap64 (s.val (itemA p.1 p.2 n)) }, []) else (f, r)
def ldA : Ld → Int
  | .tab => 2
  | .tag p => tagsA p.1 p.2
  | .itm p n => itemA p.1 p.2 n
set_option maxRecDepth 10000 in
set_option maxHeartbeats 1000000 in
theorem fstep_tab {w0 w : World} {B : WB} {V : WV} {s : CS} {fb : Nat} {f : FW} (h : WS w0 w B V s) (hr : s.room) (hlo : w0.heap.size ≤ fb) (hk : f.key.size ≤ 1000000) (hfd : FindAt w fb f [.tab]) :
    Calls Tryz.prog 34 #[.pointer (some ⟨fb, 0, none⟩), .pointer (some ⟨B.wb, 0, none⟩)] w fun e w' => e = .returned (.bool (decide ((fnext V.its s f [] .tab).2 = []))) ∧ WS w0 w' B V (s.acc 1 2 (s.val 2)) ∧ FindAt w' fb (fnext V.its s f [] .tab).1 (fnext V.its s f [] .tab).2 ∧ Fx wTy true fb w w' := by
  have ho := fover hfd
  rw [show decide ([Ld.tab] = []) = false from rfl] at ho
  obtain ⟨v, hb, a, c, rfl, hc1, hc2, ht, hrow⟩ := hfd
  have hc : c = 1 := by
    rcases ht with ⟨-, h⟩ | hno
    · exact h
    · exact absurd rfl (hno .tab (by simp))
  subst hc
  obtain hrow | ⟨g, o, cur, rfl, hg, hi⟩ := hrow
  · cases hrow
  obtain ⟨u, hu, rfl⟩ := hi 0 (by simp)
  rw [Nat.add_zero] at hu
  obtain ⟨h1, b1, -, f1⟩ := find_set (v := .slice none 0 0) (r := []) h hb ⟨none, 0, rfl, Nat.le_refl _, Nat.zero_le _, .inr (fun l hl => by cases hl), .inl rfl⟩ hlo 1 (.slice (some ⟨g, o, none⟩) 0 0)
  have hdo := ftable (f := f) h1 hr hlo hk (some ⟨g, o, none⟩) b1
  have c1 : w.cell? ⟨fb, 1, none⟩ = some (.slice (some ⟨g, o, none⟩) 1 1) := hcell hb 1
  have c2 := hfrz hb 1
  have c3 : w.cell? ⟨g, o, none⟩ = some (.func (.func 86) #[.pointer (some ⟨fb, 0, none⟩)] #[]) := by rw [hcell hg]; exact hu
  have F1 := Lib.hid f1
  clear h hr hk hb hg hi hu h1 b1 f1 hc1 hc2
  go_enter Tryz.func34, Tryz.ntmps34
  go_upto_region 4 with (go_at_call 30; refine ho.mono ?_; intro e w2 hh; obtain ⟨hh1, hh2⟩ := hh; subst hh1; obtain rfl := hh2.symm; clear ho)
  go_upto_region 6 with (go_at_call 86; refine hdo.mono ?_; intro e w3 hh; obtain ⟨hh1, h3, a3, f3⟩ := hh; subst hh1; have ho3 := fover a3; have P := Lib.hid (And.intro h3 (And.intro a3 (F1.out.trans f3))); clear h3 a3 f3 hdo)
  obtain ⟨d, hd⟩ : ∃ d, d = decide ((plist (hashOf f.key) (s.val 2)).map Ld.tag = []) := ⟨_, rfl⟩
  rw [← hd] at ho3
  have HD := Lib.hid hd
  clear hd
  go_wp2_with (go_at_call 30; refine ho3.mono ?_; intro e w4 hh; obtain ⟨hh1, hh2⟩ := hh; subst hh1; obtain rfl := hh2.symm; clear ho3)
  go_ret
  exact ⟨by rw [HD.out]; rfl, P.out.1, P.out.2.1, P.out.2.2⟩
/-- A closure's call: a place's load. -/
theorem ftag1 {w0 w : World} {B : WB} {V : WV} {s : CS} {fb xb pb : Nat} {f : FW} (p : Int × Int) (hx : w.heap[xb]? = some (.cells #[.pointer (some ⟨fb, 0, none⟩)] 78 (0, 0))) (hp : w.heap[pb]? = some (.cells #[.int .i64 p.1, .int .i64 p.2] 41 (0, 0))) {Q : Ending → World → Prop}
    (hdo : Calls Tryz.prog 145 #[.pointer (some ⟨fb, 0, none⟩), .pointer (some ⟨B.wb, 0, none⟩), .agg #[.int .i64 p.1, .int .i64 p.2]] w fun e w' => e = .returned (.bool false) ∧ Q e w') :
    Calls Tryz.prog 144 #[.pointer (some ⟨B.wb, 0, none⟩), .pointer (some ⟨xb, 0, none⟩), .pointer (some ⟨pb, 0, none⟩)] w fun e w' => e = .returned (.bool false) ∧ Q e w' := by
  have c0 := hcell hx 0
  have c1 := hcell hp 0
  have c2 := hcell hp 1
  go_enter Tryz.func144, Tryz.ntmps144
  go_wp2_with (go_at_call 145; refine hdo.mono ?_; intro e w4 hh; obtain ⟨hh1, hq⟩ := hh; subst hh1; have HQ := Lib.hid hq; clear hq hdo)
  go_ret
  exact ⟨rfl, HQ.out⟩
theorem fitm1 {w0 w : World} {B : WB} {V : WV} {s : CS} {fb xb pb nb : Nat} {f : FW} (p : Int × Int) (n : Int) (hx : w.heap[xb]? = some (.cells #[.pointer (some ⟨fb, 0, none⟩)] 78 (0, 0))) (hp : w.heap[pb]? = some (.cells #[.int .i64 p.1, .int .i64 p.2] 41 (0, 0))) (hn : w.heap[nb]? = some (.cells #[.int .i64 n] 3 (0, 0))) {Q : Bool → World → Prop}
    (hdo : Calls Tryz.prog 189 #[.pointer (some ⟨fb, 0, none⟩), .pointer (some ⟨B.wb, 0, none⟩), .agg #[.int .i64 p.1, .int .i64 p.2, .int .i64 n]] w fun e w' => ∃ d, e = .returned (.bool d) ∧ Q d w') :
    Calls Tryz.prog 188 #[.pointer (some ⟨B.wb, 0, none⟩), .pointer (some ⟨xb, 0, none⟩), .pointer (some ⟨pb, 0, none⟩), .pointer (some ⟨nb, 0, none⟩)] w fun e w' => ∃ d, e = .returned (.bool d) ∧ Q d w' := by
  have c0 := hcell hx 0
  have c1 := hcell hp 0
  have c2 := hcell hp 1
  have c3 := hcell hn 0
  go_enter Tryz.func188, Tryz.ntmps188
  go_wp2_with (go_at_call 189; refine hdo.mono ?_; intro e w4 hh; obtain ⟨d, hh1, hq⟩ := hh; subst hh1; have HQ := Lib.hid hq; clear hq hdo)
  go_ret
  exact ⟨d, rfl, HQ.out⟩
theorem left_pop {w : World} {fb : Nat} {v : Value} {l : Ld} {r : List Ld} (h : LeftRow w fb v (l :: r)) (hl : l ≠ .tab) :
    ∃ g o k u, v = .slice (some ⟨g, o, none⟩) (r.length + 1) (k + 1) ∧ w.cell? ⟨g, o, none⟩ = some u ∧ LdAt w fb u l ∧ r.length ≤ k ∧ k + 1 ≤ maxLen ∧ (∀ l ∈ r, l ≠ .tab) ∧ LeftRow w fb (.slice (some ⟨g, if k = 0 then o else o + 1, none⟩) r.length k) r := by
  obtain ⟨a, c, rfl, hc1, hc2, ht, h0 | ⟨g, o, cur, rfl, hg, hi⟩⟩ := h
  · cases h0
  have hno : ∀ l' ∈ r, l' ≠ .tab := by
    rcases ht with ⟨e, -⟩ | hno
    · simp only [List.cons.injEq] at e; exact absurd e.1 hl
    · exact fun l' h' => hno l' (List.mem_cons_of_mem _ h')
  obtain ⟨u, hu, hd⟩ := hi 0 (by simp)
  rw [Nat.add_zero] at hu
  rw [List.length_cons] at hc1
  obtain ⟨k, rfl⟩ : ∃ k, c = k + 1 := ⟨c - 1, by omega⟩
  refine ⟨g, o, k, u, rfl, by rw [hcell hg]; exact hu, hd, by omega, hc2, hno, ?_⟩
  refine ⟨_, k, rfl, by omega, by omega, .inr hno, ?_⟩
  by_cases hk : k = 0
  · exact .inl (List.eq_nil_of_length_eq_zero (by omega))
  · rw [if_neg hk]
    refine .inr ⟨g, o + 1, cur, rfl, hg, fun i hir => ?_⟩
    obtain ⟨u', h1, h2⟩ := hi (i + 1) (by simp; exact hir)
    exact ⟨u', by rw [show o + 1 + i = o + (i + 1) by omega]; exact h1, by simpa using h2⟩
set_option maxRecDepth 10000 in
set_option maxHeartbeats 2000000 in
theorem fstep_tag {w0 w : World} {B : WB} {V : WV} {s : CS} {fb : Nat} {f : FW} (h : WS w0 w B V s) (hr : s.room) (hlo : w0.heap.size ≤ fb) (hk : f.key.size ≤ 1000000) (p : Int × Int) (r : List Ld) (hr1 : r.length ≤ 1000) (hfd : FindAt w fb f (.tag p :: r)) :
    Calls Tryz.prog 34 #[.pointer (some ⟨fb, 0, none⟩), .pointer (some ⟨B.wb, 0, none⟩)] w fun e w' => e = .returned (.bool (decide ((fnext V.its s f r (.tag p)).2 = []))) ∧ WS w0 w' B V (s.acc 1 (tagsA p.1 p.2) (s.val (tagsA p.1 p.2))) ∧ FindAt w' fb (fnext V.its s f r (.tag p)).1 (fnext V.its s f r (.tag p)).2 ∧ Fx wTy true fb w w' := by
  have ho := fover hfd
  rw [show decide (Ld.tag p :: r = []) = false from rfl] at ho
  obtain ⟨v, hb, hrow⟩ := hfd
  obtain ⟨g, o, k, u, rfl, hu, ⟨xb, pb, rfl, hx, hp⟩, hrk, hkm, hno, hrow2⟩ := left_pop hrow (by intro c; cases c)
  obtain ⟨h1, b1, r1, f1⟩ := find_set h hb hrow2 hlo 1 (.slice (some ⟨g, if k = 0 then o else o + 1, none⟩) r.length k)
  have fs := set_ty hb 1 (.slice (some ⟨g, if k = 0 then o else o + 1, none⟩) r.length k)
  have hdo := ftag1 (B := B) (s := s) (V := V) (f := f) (w0 := w0) p (fs.cells _ _ _ _ hx rfl) (fs.cells _ _ _ _ hp rfl) (ftags (f := f) h1 hr hlo hk p _ k r hr1 hno b1 r1)
  have c1 : w.cell? ⟨fb, 1, none⟩ = some (.slice (some ⟨g, o, none⟩) (r.length + 1) (k + 1)) := hcell hb 1
  have c2 := hfrz hb 1
  have F1 := Lib.hid f1
  obtain ⟨ls, hls⟩ : ∃ ls, ls = (has (s.val (tagsA p.1 p.2)) (tag01 (hashOf f.key)) 4).map (fun (n : Nat) => Ld.itm p n) ++ r := ⟨_, rfl⟩
  rw [← hls] at hdo
  obtain ⟨d, hd⟩ : ∃ d, d = decide (ls = []) := ⟨_, rfl⟩
  have HD := Lib.hid hd; have HLS := Lib.hid hls
  clear h hr hk hb hrow hrow2 h1 b1 r1 f1 hx hp fs hls hno hr1
  unfold maxLen at hkm
  by_cases hk0 : k = 0
  · subst hk0
    have hr0 : r = [] := List.eq_nil_of_length_eq_zero (by omega)
    subst hr0
    simp only [if_pos, List.length_nil, Nat.zero_add] at hdo c1 F1
    go_enter Tryz.func34, Tryz.ntmps34
    go_upto_region 4 with (go_at_call 30; refine ho.mono ?_; intro e w2 hh; obtain ⟨hh1, hh2⟩ := hh; subst hh1; obtain rfl := hh2.symm; clear ho)
    go_upto_region 6 with (go_at_call 144; refine hdo.mono ?_; intro e w3 hh; obtain ⟨hh1, h3, a3, f3⟩ := hh; subst hh1; have ho3 := fover a3; have P := Lib.hid (And.intro h3 (And.intro a3 (F1.out.trans f3))); rw [← hd] at ho3; clear h3 a3 f3 hdo hd)
    go_wp2_with (go_at_call 30; refine ho3.mono ?_; intro e w4 hh; obtain ⟨hh1, hh2⟩ := hh; subst hh1; obtain rfl := hh2.symm; clear ho3)
    go_ret
    rw [HD.out]
    rw [HLS.out] at P ⊢
    exact ⟨rfl, P.out.1, P.out.2.1, P.out.2.2⟩
  · rw [if_neg hk0] at hdo F1
    go_enter Tryz.func34, Tryz.ntmps34
    go_upto_region 4 with (go_at_call 30; refine ho.mono ?_; intro e w2 hh; obtain ⟨hh1, hh2⟩ := hh; subst hh1; obtain rfl := hh2.symm; clear ho)
    go_upto_region 6 with (go_at_call 144; refine hdo.mono ?_; intro e w3 hh; obtain ⟨hh1, h3, a3, f3⟩ := hh; subst hh1; have ho3 := fover a3; have P := Lib.hid (And.intro h3 (And.intro a3 (F1.out.trans f3))); rw [← hd] at ho3; clear h3 a3 f3 hdo hd)
    go_wp2_with (go_at_call 30; refine ho3.mono ?_; intro e w4 hh; obtain ⟨hh1, hh2⟩ := hh; subst hh1; obtain rfl := hh2.symm; clear ho3)
    go_ret
    rw [HD.out]
    rw [HLS.out] at P ⊢
    exact ⟨rfl, P.out.1, P.out.2.1, P.out.2.2⟩
theorem find_stop {w0 w : World} {B : WB} {V : WV} {s : CS} {fb : Nat} {f : FW} {r : List Ld} (h : WS w0 w B V s) (hlo : w0.heap.size ≤ fb) (hfd : FindAt w fb f r) :
    WS w0 (w.setCell ⟨fb, 1, none⟩ (.slice none 0 0)) B V s ∧ FindAt (w.setCell ⟨fb, 1, none⟩ (.slice none 0 0)) fb f [] ∧ Fx wTy true fb w (w.setCell ⟨fb, 1, none⟩ (.slice none 0 0)) := by
  obtain ⟨v, hb, hrow⟩ := hfd
  obtain ⟨h1, b1, r1, f1⟩ := find_set h hb hrow hlo 1 (.slice none 0 0)
  exact ⟨h1, ⟨_, b1, none, 0, rfl, Nat.le_refl _, Nat.zero_le _, .inr (fun l hl => by cases hl), .inl rfl⟩, f1⟩
set_option maxRecDepth 10000 in
set_option maxHeartbeats 2000000 in
theorem fstep_itm {w0 w : World} {B : WB} {V : WV} {s : CS} {fb : Nat} {f : FW} (h : WS w0 w B V s) (hr : s.room) (hlo : w0.heap.size ≤ fb) (hl : V.its.length ≤ 1048576) (p : Int × Int) (n : Int) (hn : (Lit.int .i64 n).wf = true) (r : List Ld) (hfd : FindAt w fb f (.itm p n :: r)) :
    Calls Tryz.prog 34 #[.pointer (some ⟨fb, 0, none⟩), .pointer (some ⟨B.wb, 0, none⟩)] w fun e w' => e = .returned (.bool (decide ((fnext V.its s f r (.itm p n)).2 = []))) ∧ WS w0 w' B V (s.acc 1 (itemA p.1 p.2 n) (s.val (itemA p.1 p.2 n))) ∧ FindAt w' fb (fnext V.its s f r (.itm p n)).1 (fnext V.its s f r (.itm p n)).2 ∧ Fx wTy true fb w w' := by
  have ho := fover hfd
  rw [show decide (Ld.itm p n :: r = []) = false from rfl] at ho
  obtain ⟨v, hb, hrow⟩ := hfd
  obtain ⟨g, o, k, u, rfl, hu, ⟨xb, pb, nb, rfl, hx, hp, hnb⟩, hrk, hkm, hno, hrow2⟩ := left_pop hrow (by intro c; cases c)
  obtain ⟨h1, b1, r1, f1⟩ := find_set h hb hrow2 hlo 1 (.slice (some ⟨g, if k = 0 then o else o + 1, none⟩) r.length k)
  have fs := set_ty hb 1 (.slice (some ⟨g, if k = 0 then o else o + 1, none⟩) r.length k)
  have hdo := fitm1 (B := B) (s := s) (V := V) (f := f) (w0 := w0) p n (fs.cells _ _ _ _ hx rfl) (fs.cells _ _ _ _ hp rfl) (fs.cells _ _ _ _ hnb rfl) (fitem (f := f) h1 hr hlo hl p n hn r ⟨_, b1, r1⟩)
  have c1 : w.cell? ⟨fb, 1, none⟩ = some (.slice (some ⟨g, o, none⟩) (r.length + 1) (k + 1)) := hcell hb 1
  have c2 := hfrz hb 1
  have F1 := Lib.hid f1
  obtain ⟨f2, hf2⟩ : ∃ f2 : FW, f2 = { f with b := p.1, u := p.2, k := n, ref := wrap64 (s.val (itemA p.1 p.2 n)) } := ⟨_, rfl⟩
  rw [← hf2] at hdo
  have hfn : fnext V.its s f r (.itm p n) = if hit V.its s f.key p n = true then (f2, []) else (f, r) := by rw [hf2]; rfl
  rw [hfn]
  change Calls _ _ _ _ (fun e w' => ∃ d, e = .returned (.bool d) ∧ d = hit V.its s f.key p n ∧ _) at hdo
  generalize hit V.its s f.key p n = hh0 at *
  have HF2 := Lib.hid hf2
  obtain ⟨d5, hd5⟩ : ∃ d5, d5 = decide (r = []) := ⟨_, rfl⟩
  have HD5 := Lib.hid hd5
  clear hd5
  clear h hr hl hn hb hrow hrow2 h1 b1 r1 f1 hx hp hnb fs hf2 hno hfn
  unfold maxLen at hkm
  by_cases hk0 : k = 0
  · subst hk0
    have hr0 : r = [] := List.eq_nil_of_length_eq_zero (by omega)
    subst hr0
    simp only [if_pos, List.length_nil, Nat.zero_add] at hdo c1 F1
    cases hh0
    · go_enter Tryz.func34, Tryz.ntmps34
      go_upto_region 4 with (go_at_call 30; refine ho.mono ?_; intro e w2 hh; obtain ⟨hh1, hh2⟩ := hh; subst hh1; obtain rfl := hh2.symm; clear ho)
      go_upto_region 6 with (go_at_call 188; refine hdo.mono ?_; intro e w3 hh; obtain ⟨d, hh1, hd, h3, a3, f3⟩ := hh; subst hh1; subst hd; rw [if_neg Bool.false_ne_true] at a3; have ho5 := fover a3; rw [show decide (([] : List Ld) = []) = true from rfl] at ho5; have P := Lib.hid (And.intro h3 (And.intro a3 (F1.out.trans f3))); clear h3 a3 f3 hdo)
      go_wp2_with (go_at_call 30; refine ho5.mono ?_; intro e w4 hh; obtain ⟨hh1, hh2⟩ := hh; subst hh1; obtain rfl := hh2.symm; clear ho5)
      go_ret
      exact ⟨rfl, P.out.1, P.out.2.1, P.out.2.2⟩
    · go_enter Tryz.func34, Tryz.ntmps34
      go_upto_region 4 with (go_at_call 30; refine ho.mono ?_; intro e w2 hh; obtain ⟨hh1, hh2⟩ := hh; subst hh1; obtain rfl := hh2.symm; clear ho)
      go_upto_region 5 with (go_at_call 188; refine hdo.mono ?_; intro e w3 hh; obtain ⟨d, hh1, hd, h3, a3, f3⟩ := hh; subst hh1; subst hd; rw [if_pos rfl] at a3; have g0 := a3; obtain ⟨v3, z3, y3⟩ := g0; have e1 := hcell z3 1; have e2 := hfrz z3 1; obtain ⟨h5, a5, f5⟩ := find_stop h3 hlo a3; have ho5 := fover a5; have P := Lib.hid (And.intro h5 (And.intro a5 ((F1.out.trans f3).trans f5))); clear z3 y3 h5 a5 f5; clear h3 a3 f3 hdo)
      go_wp2_with (go_at_call 30; refine ho5.mono ?_; intro e w4 hh; obtain ⟨hh1, hh2⟩ := hh; subst hh1; obtain rfl := hh2.symm; clear ho5)
      go_ret
      exact ⟨rfl, P.out.1, P.out.2.1, P.out.2.2⟩
  · rw [if_neg hk0] at hdo F1
    cases hh0
    · go_enter Tryz.func34, Tryz.ntmps34
      go_upto_region 4 with (go_at_call 30; refine ho.mono ?_; intro e w2 hh; obtain ⟨hh1, hh2⟩ := hh; subst hh1; obtain rfl := hh2.symm; clear ho)
      go_upto_region 6 with (go_at_call 188; refine hdo.mono ?_; intro e w3 hh; obtain ⟨d, hh1, hd, h3, a3, f3⟩ := hh; subst hh1; subst hd; rw [if_neg Bool.false_ne_true] at a3; have ho5 := fover a3; rw [← HD5.out] at ho5; have P := Lib.hid (And.intro h3 (And.intro a3 (F1.out.trans f3))); clear h3 a3 f3 hdo)
      go_wp2_with (go_at_call 30; refine ho5.mono ?_; intro e w4 hh; obtain ⟨hh1, hh2⟩ := hh; subst hh1; obtain rfl := hh2.symm; clear ho5)
      go_ret
      exact ⟨by rw [HD5.out]; rfl, P.out.1, P.out.2.1, P.out.2.2⟩
    · go_enter Tryz.func34, Tryz.ntmps34
      go_upto_region 4 with (go_at_call 30; refine ho.mono ?_; intro e w2 hh; obtain ⟨hh1, hh2⟩ := hh; subst hh1; obtain rfl := hh2.symm; clear ho)
      go_upto_region 5 with (go_at_call 188; refine hdo.mono ?_; intro e w3 hh; obtain ⟨d, hh1, hd, h3, a3, f3⟩ := hh; subst hh1; subst hd; rw [if_pos rfl] at a3; have g0 := a3; obtain ⟨v3, z3, y3⟩ := g0; have e1 := hcell z3 1; have e2 := hfrz z3 1; obtain ⟨h5, a5, f5⟩ := find_stop h3 hlo a3; have ho5 := fover a5; have P := Lib.hid (And.intro h5 (And.intro a5 ((F1.out.trans f3).trans f5))); clear z3 y3 h5 a5 f5; clear h3 a3 f3 hdo)
      go_wp2_with (go_at_call 30; refine ho5.mono ?_; intro e w4 hh; obtain ⟨hh1, hh2⟩ := hh; subst hh1; obtain rfl := hh2.symm; clear ho5)
      go_ret
      exact ⟨rfl, P.out.1, P.out.2.1, P.out.2.2⟩
end Go.Proofs.YtmagpbbjjkmbpaaGreat

/-
  A Find runs by itself.
-/
namespace Go.Proofs.YtmagpbbjjkmbpaaGreat
open Go.RowKit Go.Maps TagPure
set_option linter.unusedVariables false

def POk (ls : List Ld) (j : Nat) : Prop := (ls = [.tab] ∨ ∀ l ∈ ls, l ≠ .tab ∧ LdOk l) ∧ ls.length ≤ 4 * (j + 1)
theorem has_lt (x t : Int) (k n : Nat) (h : n ∈ has x t k) : n < k := by
  induction k with
  | zero => cases h
  | succ k ih =>
    unfold has at h
    rcases List.mem_append.1 h with h | h
    · have := ih h; omega
    · split at h
      · rw [List.mem_singleton] at h; omega
      · cases h
theorem POk.next {l : Ld} {r : List Ld} {j : Nat} (its : List Itm) (s : CS) (f : FW) (h : POk (l :: r) j) : POk (fnext its s f r l).2 (j + 1) := by
  obtain ⟨h1, h2⟩ := h
  rw [List.length_cons] at h2
  have hr : ∀ l' ∈ r, l' ≠ .tab ∧ LdOk l' := by
    rcases h1 with h1 | h1
    · simp only [List.cons.injEq] at h1; rw [h1.2]; intro l' h; cases h
    · exact fun l' h => h1 l' (List.mem_cons_of_mem _ h)
  cases l with
  | tab =>
    refine ⟨.inr fun l' hl' => ?_, ?_⟩
    · obtain ⟨p, -, rfl⟩ := List.mem_map.1 hl'
      exact ⟨(by intro c; cases c), trivial⟩
    · have := plist_len (hashOf f.key) (s.val 2)
      show ((plist (hashOf f.key) (s.val 2)).map Ld.tag).length ≤ _
      rw [List.length_map]; omega
  | tag p =>
    refine ⟨.inr fun l' hl' => ?_, ?_⟩
    · rcases List.mem_append.1 hl' with hl' | hl'
      · obtain ⟨n, hn, rfl⟩ := List.mem_map.1 hl'
        have := has_lt _ _ _ _ hn
        refine ⟨(by intro c; cases c), ?_⟩
        show (Lit.int .i64 (n : Int)).wf = true
        simp [Lit.wf, IntKind.min, IntKind.max, IntKind.bits, IntKind.signed]; omega
      · exact hr l' hl'
    · have := has_le (s.val (tagsA p.1 p.2)) (tag01 (hashOf f.key)) 4
      show ((has (s.val (tagsA p.1 p.2)) (tag01 (hashOf f.key)) 4).map (fun (n : Nat) => Ld.itm p n) ++ r).length ≤ _
      rw [List.length_append, List.length_map]; omega
  | itm p n =>
    show POk (if hit its s f.key p n = true then ({ f with b := p.1, u := p.2, k := n, ref := wrap64 (s.val (itemA p.1 p.2 n)) }, []) else (f, r)).2 (j + 1)
    split
    · exact ⟨.inr fun l' h => (by cases h), by simp⟩
    · exact ⟨.inr hr, by show r.length ≤ _; omega⟩
theorem fnext_key (its : List Itm) (s : CS) (f : FW) (r : List Ld) (l : Ld) : (fnext its s f r l).1.key = f.key := by
  cases l with
  | tab => rfl
  | tag p => rfl
  | itm p n =>
    show (if hit its s f.key p n = true then (({ f with b := p.1, u := p.2, k := n, ref := wrap64 (s.val (itemA p.1 p.2 n)) } : FW), ([] : List Ld)) else (f, r)).1.key = f.key
    split <;> rfl
theorem fstep_any {w0 w : World} {B : WB} {V : WV} {s : CS} {fb : Nat} {f : FW} (h : WS w0 w B V s) (hr : s.room) (hlo : w0.heap.size ≤ fb) (hk : f.key.size ≤ 1000000) (hl : V.its.length ≤ 1048576) (l : Ld) (r : List Ld) (j : Nat) (hj : j ≤ 200) (hp : POk (l :: r) j) (hfd : FindAt w fb f (l :: r)) :
    Calls Tryz.prog 34 #[.pointer (some ⟨fb, 0, none⟩), .pointer (some ⟨B.wb, 0, none⟩)] w fun e w' => e = .returned (.bool (decide ((fnext V.its s f r l).2 = []))) ∧ WS w0 w' B V (s.acc 1 (ldA l) (s.val (ldA l))) ∧ FindAt w' fb (fnext V.its s f r l).1 (fnext V.its s f r l).2 ∧ Fx wTy true fb w w' := by
  obtain ⟨h1, h2⟩ := hp
  rw [List.length_cons] at h2
  cases l with
  | tab =>
    have : r = [] := by
      rcases h1 with h1 | h1
      · simp only [List.cons.injEq, true_and] at h1; exact h1
      · exact absurd rfl (h1 .tab (by simp)).1
    subst this
    exact fstep_tab h hr hlo hk hfd
  | tag p => exact fstep_tag h hr hlo hk p r (by omega) hfd
  | itm p n =>
    have hn : (Lit.int .i64 n).wf = true := by
      rcases h1 with h1 | h1
      · simp only [List.cons.injEq] at h1; cases h1.1
      · exact (h1 (.itm p n) (by simp)).2
    exact fstep_itm h hr hlo hl p n hn r hfd
/-- A run of at most so many steps: how many it takes, and what is left. -/
def fiter (its : List Itm) : Nat → CS → FW → List Ld → Nat × CS × FW × List Ld
  | 0, s, f, ls => (0, s, f, ls)
  | m + 1, s, f, [] => (0, s, f, [])
  | m + 1, s, f, l :: r => ((fiter its m (s.acc 1 (ldA l) (s.val (ldA l))) (fnext its s f r l).1 (fnext its s f r l).2).1 + 1, (fiter its m (s.acc 1 (ldA l) (s.val (ldA l))) (fnext its s f r l).1 (fnext its s f r l).2).2)
theorem fiter_nil (its : List Itm) (m : Nat) (s : CS) (f : FW) : fiter its m s f [] = (0, s, f, []) := by cases m <;> rfl
set_option maxRecDepth 10000 in
set_option maxHeartbeats 2000000 in
theorem frun {w0 w : World} {B : WB} {V : WV} {s : CS} {fb : Nat} {f : FW} {ls : List Ld} (m : Nat) (hm : m ≤ 99) (c : Nat) (hc : s.n ≤ c ∧ s.cnt ≤ c) (hcl : c + 100 < lim) (h : WS w0 w B V s) (hlo : w0.heap.size ≤ fb) (hk : f.key.size ≤ 1000000) (hl : V.its.length ≤ 1048576) (hp : POk ls 0) (hfd : FindAt w fb f ls) :
    Calls Tryz.prog 24 #[.pointer (some ⟨B.wb, 0, none⟩), .iface 78 (.pointer (some ⟨fb, 0, none⟩)), .int .i64 m] w fun e w' => e = .returned (.int .i64 ((fiter V.its m s f ls).1 : Nat)) ∧ WS w0 w' B V (fiter V.its m s f ls).2.1 ∧ FindAt w' fb (fiter V.its m s f ls).2.2.1 (fiter V.its m s f ls).2.2.2 ∧ Fx wTy true fb w w' := by
  have H := Lib.hid h; have HFD := Lib.hid hfd; have HP := Lib.hid hp; have HC := Lib.hid hc; have HCL := Lib.hid hcl; have HK := Lib.hid hk; have HL := Lib.hid hl
  clear h hfd hp hc hcl hk hl
  obtain ⟨R, hR⟩ : ∃ R, R = fiter V.its m s f ls := ⟨_, rfl⟩
  rw [← hR]
  have HR := Lib.hid hR
  clear hR
  go_enter Tryz.func24, Tryz.ntmps24
  go_wp2
  go_loopw [7] (fun i wr => ∃ (k : Nat) (s' : CS) (f' : FW) (ls' : List Ld), k ≤ m ∧ i = .int .i64 k ∧ WS w0 wr B V s' ∧ FindAt wr fb f' ls' ∧ POk ls' k ∧ f'.key = f.key ∧ (s'.n ≤ c + k ∧ s'.cnt ≤ c + k) ∧ R = ((fiter V.its (m - k) s' f' ls').1 + k, (fiter V.its (m - k) s' f' ls').2) ∧ Fx wTy true fb w wr) (fun i _ => m - (intOf i).toNat)
  case atStart => exact ⟨0, s, f, ls, by omega, rfl, H.out, HFD.out, HP.out, rfl, HC.out, HR.out, ⟨Nat.le_refl _, fun _ _ _ _ h _ _ => h, fun _ _ _ _ h _ => h⟩⟩
  case round =>
    clear H HFD HP HC HR
    obtain ⟨k, s', f', ls', hk, rfl, h, hfd, hp, hkey, hc, hR, hfx⟩ := hrel
    have hov := fover hfd
    by_cases hlt : k < m
    · have hlt' : (k : Int) < m := by omega
      cases ls' with
      | nil =>
        rw [show decide (([] : List Ld) = []) = true from rfl] at hov
        rw [fiter_nil] at hR
        have P := Lib.hid (And.intro h (And.intro hfd hfx))
        have HR := Lib.hid hR
        clear h hfd hp hkey hc hR hfx
        go_wp2_with (go_at_call 30; refine hov.mono ?_; intro e w2 hh; obtain ⟨hh1, hh2⟩ := hh; subst hh1; obtain rfl := hh2.symm; clear hov)
        go_ret
        rw [HR.out]
        exact ⟨by simp, P.out.1, P.out.2.1, P.out.2.2⟩
      | cons l r =>
        rw [show decide (l :: r = []) = false from rfl] at hov
        have hst := fstep_any h (CS.room_of (c + k) hc (by have := HCL.out; omega)) hlo (by rw [hkey]; exact HK.out) HL.out l r k (by omega) hp hfd
        obtain ⟨q, hq⟩ : ∃ q, q = m - (k + 1) := ⟨_, rfl⟩
        rw [show m - k = q + 1 by omega] at hR
        have hR2 : R = ((fiter V.its q (s'.acc 1 (ldA l) (s'.val (ldA l))) (fnext V.its s' f' r l).1 (fnext V.its s' f' r l).2).1 + (k + 1), (fiter V.its q (s'.acc 1 (ldA l) (s'.val (ldA l))) (fnext V.its s' f' r l).1 (fnext V.its s' f' r l).2).2) := by
          rw [hR]; simp only [fiter]; rw [Prod.mk.injEq]; exact ⟨by omega, rfl⟩
        have hp2 := hp.next V.its s' f'
        have hkey2 := (fnext_key V.its s' f' r l).trans hkey
        have hc2 : (s'.acc 1 (ldA l) (s'.val (ldA l))).n ≤ c + (k + 1) ∧ (s'.acc 1 (ldA l) (s'.val (ldA l))).cnt ≤ c + (k + 1) := by simp only [CS.acc]; omega
        rw [hq] at hR2
        have Q := Lib.hid (And.intro hp2 (And.intro hkey2 (And.intro hc2 hR2)))
        have FX := Lib.hid hfx
        have HLT := Lib.hid hlt
        clear h hfd hp hkey hc hR hq hR2 hp2 hkey2 hc2 hfx
        generalize hd : decide ((fnext V.its s' f' r l).2 = []) = d at hst
        clear hd
        go_wp2_with (first
          | (go_at_call 30; refine hov.mono ?_; intro e w2 hh; obtain ⟨hh1, hh2⟩ := hh; subst hh1; obtain rfl := hh2.symm; clear hov)
          | (go_at_call 34; refine hst.mono ?_; intro e w3 hh; obtain ⟨hh1, g1, g2, g3⟩ := hh; subst hh1; have P := Lib.hid (And.intro g1 (And.intro g2 (FX.out.trans g3))); clear g1 g2 g3 hst))
        go_roundw
        case rel => exact ⟨k + 1, _, _, _, HLT.out, by go_num, P.out.1, P.out.2.1, Q.out.1, Q.out.2.1, Q.out.2.2.1, Q.out.2.2.2, P.out.2.2⟩
        case measure => have := HLT.out; simp [intOf]; omega
    · obtain rfl : k = m := by omega
      rw [Nat.sub_self] at hR
      have P := Lib.hid (And.intro h (And.intro hfd hfx))
      have HR := Lib.hid hR
      clear h hfd hp hkey hc hR hfx hov
      go_wp2
      go_ret
      rw [HR.out]
      exact ⟨by simp [fiter], P.out.1, P.out.2.1, P.out.2.2⟩
end Go.Proofs.YtmagpbbjjkmbpaaGreat
