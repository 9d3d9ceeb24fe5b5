/-
  Texts of this prover, merged: Begin0, Arr, PairSame, CellsSort.
-/
import Derived.Test.YteofdldlmmkgbaaG13
import Derived.Test.YteofdldlmmkgbaaSortLay
import Derived.Test.YteofdldlmmkgbaaG1
import Derived.ChangeKeysEq
import Derived.Deep.MidRow
/-
  A pair of worlds: what its makers share; the pair with nothing ahead.
-/
namespace Go.Proofs.Yteofdldlmmkgbaa
open Go.RowKit
set_option linter.unusedVariables false

/-- Triples of bytes that may be read. -/
structure Tri (w : World) (a : Option Addr) (cap : Nat) (l : List (Int × Int × Int)) : Prop where
  le : l.length ≤ cap
  most : cap ≤ maxLen
  bd : ∀ p ∈ l, (0 ≤ p.1 ∧ p.1 < 256) ∧ (0 ≤ p.2.1 ∧ p.2.1 < 256) ∧ (0 ≤ p.2.2 ∧ p.2.2 < 256)
  cell : l = [] ∨ ∃ b off, a = some ⟨b, off, none⟩ ∧ ∀ i, (hi : i < l.length) → w.cell? ⟨b, off + i * 3, none⟩ = some (.int .u8 (l[i]).1) ∧ w.cell? ⟨b, off + i * 3 + 1, none⟩ = some (.int .u8 (l[i]).2.1) ∧ w.cell? ⟨b, off + i * 3 + 2, none⟩ = some (.int .u8 (l[i]).2.2)
theorem Tri.at {w : World} {a : Option Addr} {cap : Nat} {l : List (Int × Int × Int)} (h : Tri w a cap l) (i : Nat) (hi : i < l.length) : ∃ b off x y z, a = some ⟨b, off, none⟩ ∧ ((0 ≤ x ∧ x < 256) ∧ (0 ≤ y ∧ y < 256) ∧ (0 ≤ z ∧ z < 256)) ∧
    w.cell? ⟨b, off + i * 3, none⟩ = some (.int .u8 x) ∧ w.cell? ⟨b, off + i * 3 + 1, none⟩ = some (.int .u8 y) ∧ w.cell? ⟨b, off + i * 3 + 2, none⟩ = some (.int .u8 z) := by
  rcases h.cell with rfl | ⟨b, off, rfl, h5⟩
  · simp at hi
  · exact ⟨b, off, _, _, _, rfl, h.bd _ (List.getElem_mem hi), h5 i hi⟩
theorem Tri.below {w w' : World} {a : Option Addr} {cap : Nat} {l : List (Int × Int × Int)} (h : Tri w a cap l) (hb : Below w.heap.size w w') : Tri w' a cap l := by
  refine ⟨h.le, h.most, h.bd, h.cell.imp id fun ⟨b, off, e, h5⟩ => ⟨b, off, e, fun i hi => ?_⟩⟩
  obtain ⟨h6, h7, h8⟩ := h5 i hi
  exact ⟨(hb.cell (World.block_lt_of_cell? _ _ h6)).trans h6, (hb.cell (World.block_lt_of_cell? _ _ h7)).trans h7, (hb.cell (World.block_lt_of_cell? _ _ h8)).trans h8⟩
/-- What a First holds. -/
structure Fst where
  c : Conf
  gr : Bool
  ia : Option Addr
  ic : Nat
  its : List Itm
  pa : Option Addr
  pc : Nat
  puts : List (Int × Int × Int)
  sa : Option Addr
  sc : Nat
  sts : List (Int × Int)
  ticks : Int
def Fst.cells (f : Fst) : Array Value := #[.int .i64 f.c.bits, .int .i64 f.c.budget, .int .i64 f.c.tries, .int .i64 f.c.quantum, .int .i64 f.c.way, .bool f.gr, .slice f.ia f.its.length f.ic, .slice f.pa f.puts.length f.pc, .slice f.sa f.sts.length f.sc, .int .i64 f.ticks]
def Fst.conf (f : Fst) : Conf := if f.c.ok = true then f.c else conf10
/-- It may be read, and is not great. -/
structure FstIn (w : World) (f : Fst) : Prop where
  its : Itms w (.slice f.ia f.its.length f.ic) f.its
  puts : Tri w f.pa f.pc f.puts
  sts : RWds w f.sa f.sc f.sts
  ni : f.its.length ≤ 40
  np : f.puts.length ≤ 60
  ns : f.sts.length ≤ 60
  key : ∀ y ∈ f.its, y.key.size ≤ 1000
theorem FstIn.below {w w' : World} {f : Fst} (h : FstIn w f) (hb : Below w.heap.size w w') : FstIn w' f :=
  ⟨h.its.below hb (Nat.le_refl _), h.puts.below hb, h.sts.below hb, h.ni, h.np, h.ns, h.key⟩

def v0 (c : Conf) : WV := ⟨c, [], [], List.replicate 64 0, -1⟩
theorem tk_eq : tkV (List.replicate 64 0) = tk0 := by simp [tkV, tk0]
theorem rd_of {w w1 w2 : World} {rb cr rib rnb : Nat} {c : Conf} {x : RS} (h : RWld w1 w2 rb cr rib rnb c x) (hB : Below w.heap.size w w1) (hb : Below w1.heap.size w1 w2) : RD w w2 ⟨rb, cr, rib, rnb⟩ (v0 c) x := by
  obtain ⟨lv, hr⟩ := h.ref
  have hs := hB.size
  refine ⟨hB.trans (hb.mono hs), ⟨lv, hr.base hs⟩, ?_, Nat.le_trans hs h.lo, ⟨_, none, 0, ⟨h.items, World.ownsRow_nil _ _ _ _, Nat.le_trans hs h.ilo, by simp [Value.ownBlock]⟩, rfl⟩, NL.nil _ _ h.notes (Nat.le_trans hs h.nlo), by simp [v0]⟩
  have := h.blk
  unfold WB.val v0
  simp only [tk_eq]
  exact this
theorem ws_of {w w1 w2 : World} {wb cb ib nb : Nat} {c : Conf} {s : CS} (hB : Below w.heap.size w w1) (h1 : w2.heap[wb]? = some (.cells (worldV cb ib nb c tk0 (-1)).toArray 42 (0, 0))) (h2 : w1.heap.size ≤ wb) (h3 : Own w1 w2 cb s)
    (h4 : w2.heap[ib]? = some (.cells #[.slice none 0 0, .int .i64 0] 157 (0, 0))) (h5 : w1.heap.size ≤ ib) (h6 : w2.heap[nb]? = some (.cells #[.slice none 0 0] 197 (0, 0))) (h7 : w1.heap.size ≤ nb) : WS w w2 ⟨wb, cb, ib, nb⟩ (v0 c) s := by
  have hs := hB.size
  have ha : ArenaAt w2 w.heap.size ib none 0 [] [] := ⟨by simpa using h4, World.ownsRow_nil _ _ _ _, Nat.le_trans hs h5, by simp, by simp, by simp, by simp, by simp, by simp, by simp [Value.ownBlock], by simp⟩
  refine ⟨h3.base hB, ?_, Nat.le_trans hs h2, ⟨_, none, 0, [], ha, rfl⟩, NL.nil _ _ h6 (Nat.le_trans hs h7), by simp [v0]⟩
  unfold WB.val v0
  simp only [tk_eq]
  exact h1
theorem tword_bits {c : Conf} (hc : c.ok = true) : tword c.bits 0 = c.bits ∧ 1 ≤ c.bits ∧ c.bits ≤ 12 := by
  simp only [Conf.ok, Bool.and_eq_true, decide_eq_true_eq] at hc
  unfold tword; omega
theorem init_one (v : Int) (hv : v ≠ 0) : Alike (CS.init [(2, v)]) ⟨rfold [(2, v)], 0, 0, 0, 0, 0⟩ := by
  have e : rfold [(2, v)] = [(2, v)] := by
    show rput [] 2 v = _
    rw [rput_ins (l := []) List.Pairwise.nil]; simp [rins, hv]
  rw [e]
  refine ⟨?_, List.pairwise_singleton _ _, fun p hp => by simp only [List.mem_singleton] at hp; subst hp; exact hv, rfl, rfl, rfl, rfl, rfl⟩
  funext a
  show upd (fun _ => 0) 2 v a = _
  unfold upd
  by_cases h : a = 2
  · simp [h, rlook]
  · simp [h, rlook, Ne.symm h]
theorem init_far1 (v : Int) : Far (CS.init [(2, v)]) ⟨rfold [(2, v)], 0, 0, 0, 0, 0⟩ 1 := by
  have := rfold_len [(2, v)]
  exact ⟨by show (1 : Nat) ≤ 1; omega, by show (0 : Nat) ≤ 1; omega, by simpa using this⟩

/-- The four blocks that Begin makes. -/
structure BxF (f : Fst) (c : Conf) (q q4 : Nat) (vw vr : Value) (W : World) : Prop where
  hF : W.heap[q]? = some (.cells f.cells 49 (0, 0))
  h2 : W.heap[q + 1]? = some (.cells #[.pointer none, .pointer none] 44 (0, 0))
  h3 : W.heap[q + 2]? = some (.cells #[.int .i64 c.bits, .int .i64 c.budget, .int .i64 c.tries, .int .i64 c.quantum, .int .i64 c.way] 23 (0, 0))
  h4 : W.heap[q4]? = some (.cells #[vw, vr] 44 (0, 0))
theorem BxF.fr {f : Fst} {c : Conf} {q q4 : Nat} {vw vr : Value} {W W' : World} {K : TypeId → Bool} {mp : Bool} (h : BxF f c q q4 vw vr W) (hf : Fr K mp W W') (h1 : K 49 = false) (h2 : K 44 = false) (h3 : K 23 = false) : BxF f c q q4 vw vr W' :=
  ⟨hf.cells _ _ _ _ h.hF h1, hf.cells _ _ _ _ h.h2 h2, hf.cells _ _ _ _ h.h3 h3, hf.cells _ _ _ _ h.h4 h2⟩
theorem BxF.below {f : Fst} {c : Conf} {q q4 : Nat} {vw vr : Value} {W W' : World} (h : BxF f c q q4 vw vr W) (hb : Below W.heap.size W W') : BxF f c q q4 vw vr W' := h.fr (below_fr hb (fun _ => false) false) rfl rfl rfl
theorem BxF.set {f : Fst} {c : Conf} {q q4 : Nat} {vw vr : Value} {W : World} (h : BxF f c q q4 vw vr W) (hne : q4 ≠ q + 1) (o : Nat) (v : Value) (vw' vr' : Value) (hv : (#[vw, vr] : Array Value).setIfInBounds o v = #[vw', vr']) : BxF f c q q4 vw' vr' (W.setCell ⟨q4, o, none⟩ v) := by
  have hk := setCell_keeps W q4 o v
  have ne1 : q ≠ q4 := fun c => by
    have := h.hF; rw [c, h.h4] at this; simp only [Option.some.injEq, Obj.cells.injEq] at this; exact absurd this.2.1 (by decide)
  have ne3 : q + 2 ≠ q4 := fun c => by
    have := h.h3; rw [c, h.h4] at this; simp only [Option.some.injEq, Obj.cells.injEq] at this; exact absurd this.2.1 (by decide)
  refine ⟨(Below.heap_setCell _ _ _ _ ne1).trans h.hF, (Below.heap_setCell _ _ _ _ (Ne.symm hne)).trans h.h2, (Below.heap_setCell _ _ _ _ ne3).trans h.h3, ?_⟩
  rw [← hv]; exact setCell_same h.h4 o v
theorem setPair_fr {W : World} {q : Nat} {cs : Array Value} (h : W.heap[q]? = some (.cells cs 44 (0, 0))) (o : Nat) (v : Value) : Fr (fun T => T == 44) false W (W.setCell ⟨q, o, none⟩ v) :=
  keeps_fr (setCell_keeps W q o v) _ _ fun k e => ⟨_, _, _, e ▸ h, rfl⟩
theorem pairTy_w (T : TypeId) (h : wTy T = true) : (T == 44) = false := by
  cases hT : (T == 44)
  · rfl
  · rw [beq_iff_eq] at hT; subst hT; cases h
theorem pairTy_r (T : TypeId) (h : rTy T = true) : (T == 44) = false := by
  cases hT : (T == 44)
  · rfl
  · rw [beq_iff_eq] at hT; subst hT; cases h
theorem below_set {w W : World} {q o : Nat} {v : Value} (h : Below w.heap.size w W) (hq : w.heap.size ≤ q) : Below w.heap.size w (W.setCell ⟨q, o, none⟩ v) := keeps_below (setCell_keeps W q o v) h h.size fun k e => e ▸ hq

def BeginPost (f : Fst) (w : World) (e : Ending) (w' : World) : Prop := ∃ B R V s x, e = .returned (.agg #[.pointer (some ⟨B.wb, 0, none⟩), .pointer (some ⟨R.wb, 0, none⟩)]) ∧ Pr w w' B R V s x ∧ V = { v0 f.conf with its := f.its } ∧ Far s x 300 ∧ f.conf.ok = true ∧
  (f.gr = false → f.puts = [] → f.sts = [] → f.ticks ≤ 0 → s = CS.init [(2, f.conf.bits)])
def f00 : Fst := ⟨⟨0, 0, 0, 0, 0⟩, false, none, 0, [], none, 0, [], none, 0, [], 0⟩

set_option maxRecDepth 100000 in
set_option maxHeartbeats 4000000 in
theorem begin_zero (w : World) : Calls Try.prog 19 #[.agg #[.int .i64 0, .int .i64 0, .int .i64 0, .int .i64 0, .int .i64 0, .bool false, .slice none 0 0, .slice none 0 0, .slice none 0 0, .int .i64 0]] w (BeginPost f00 w) := by
  have hok : Fst.c f00 = ⟨0, 0, 0, 0, 0⟩ := rfl
  have hcf : Fst.conf f00 = conf10 := by unfold Fst.conf; rfl
  have hcok : (Fst.conf f00).ok = true := by rw [hcf]; decide
  obtain ⟨hwb, hb1, hb12⟩ := tword_bits hcok
  have HCF := Lib.hid hcf; have HOK := Lib.hid hcok; have HTW := Lib.hid hwb
  clear hcf hcok hwb
  go_enter Try.func19, Try.ntmps19
  go_upto_region 2 with (fail)
  have hF : (((w.alloc (.cells (Fst.cells f00) 49)).alloc (.cells #[.pointer none, .pointer none] 44)).alloc (.cells #[.int .i64 0, .int .i64 0, .int .i64 0, .int .i64 0, .int .i64 0] 23)).heap[w.heap.size]? = some (.cells (Fst.cells f00) 49 (0, 0)) := heap_alloc_old (heap_alloc_old (heap_alloc_new w _))
  have h2 : (((w.alloc (.cells (Fst.cells f00) 49)).alloc (.cells #[.pointer none, .pointer none] 44)).alloc (.cells #[.int .i64 0, .int .i64 0, .int .i64 0, .int .i64 0, .int .i64 0] 23)).heap[w.heap.size + 1]? = some (.cells #[.pointer none, .pointer none] 44 (0, 0)) := heap_alloc_old (heap_alloc_at _ _ (by simp))
  have h3 : (((w.alloc (.cells (Fst.cells f00) 49)).alloc (.cells #[.pointer none, .pointer none] 44)).alloc (.cells #[.int .i64 0, .int .i64 0, .int .i64 0, .int .i64 0, .int .i64 0] 23)).heap[w.heap.size + 1 + 1]? = some (.cells #[.int .i64 0, .int .i64 0, .int .i64 0, .int .i64 0, .int .i64 0] 23 (0, 0)) := heap_alloc_at _ _ (by simp)
  have hB3 : Below w.heap.size w (((w.alloc (.cells (Fst.cells f00) 49)).alloc (.cells #[.pointer none, .pointer none] 44)).alloc (.cells #[.int .i64 0, .int .i64 0, .int .i64 0, .int .i64 0, .int .i64 0] 23)) := (((Below.refl _ w).alloc (Nat.le_refl _) _).alloc (by simp) _).alloc (by simp; omega) _
  change Code.wp _ _ _ _ (((w.alloc (.cells (Fst.cells f00) 49)).alloc (.cells #[.pointer none, .pointer none] 44)).alloc (.cells #[.int .i64 0, .int .i64 0, .int .i64 0, .int .i64 0, .int .i64 0] 23))
  generalize ((w.alloc (.cells (Fst.cells f00) 49)).alloc (.cells #[.pointer none, .pointer none] 44)).alloc (.cells #[.int .i64 0, .int .i64 0, .int .i64 0, .int .i64 0, .int .i64 0] 23) = W3 at *
  have d0 := hcell h3 0; have d1 := hcell h3 1; have d2 := hcell h3 2; have d3 := hcell h3 3; have d4 := hcell h3 4
  have HF := Lib.hid hF; have H2 := Lib.hid h2; have H3 := Lib.hid h3; have HB3 := Lib.hid hB3
  clear hF h2 h3 hB3
  go_upto_region 4 with (first
    | (go_at_call 10; refine (rother_any ⟨0, 0, 0, 0, 0⟩ _).mono ?_; rintro e w4 ⟨rfl, b4⟩)
    | (go_at_call 12; refine (rmay_any ⟨0, 0, 0, 0, 0⟩ _).mono ?_; rw [show (⟨0, 0, 0, 0, 0⟩ : Conf).ok = false from rfl]; rintro e W4 ⟨rfl, b5⟩; clear d0 d1 d2 d3 d4; have hb4 : Below W3.heap.size W3 W4 := b4.trans (b5.mono b4.size); have h34 := (hb4.block _ (Array.getElem?_eq_some_iff.1 H3.out).1).trans H3.out; have d0 := hcell h34 0; have d1 := hcell h34 1; have d2 := hcell h34 2; have d3 := hcell h34 3; have d4 := hcell h34 4; have df := hfrz h34; have H34 := Lib.hid h34; have HB4 := Lib.hid hb4; clear h34 hb4))
  have hF0 := (HB4.out.block _ (Array.getElem?_eq_some_iff.1 HF.out).1).trans HF.out
  have h20 := (HB4.out.block _ (Array.getElem?_eq_some_iff.1 H2.out).1).trans H2.out
  have h3 : (((((W4.setCell ⟨w.heap.size + 1 + 1, 0, none⟩ (.int .i64 2)).setCell ⟨w.heap.size + 1 + 1, 1, none⟩ (.int .i64 8)).setCell ⟨w.heap.size + 1 + 1, 2, none⟩ (.int .i64 3)).setCell ⟨w.heap.size + 1 + 1, 3, none⟩ (.int .i64 1)).setCell ⟨w.heap.size + 1 + 1, 4, none⟩ (.int .i64 16)).heap[w.heap.size + 2]? = some (.cells #[.int .i64 (Fst.conf f00).bits, .int .i64 (Fst.conf f00).budget, .int .i64 (Fst.conf f00).tries, .int .i64 (Fst.conf f00).quantum, .int .i64 (Fst.conf f00).way] 23 (0, 0)) := by
    have := setCell_same (setCell_same (setCell_same (setCell_same (setCell_same H34.out 0 (.int .i64 2)) 1 (.int .i64 8)) 2 (.int .i64 3)) 3 (.int .i64 1)) 4 (.int .i64 16)
    rw [show (Fst.conf f00) = conf10 from HCF.out]
    exact this
  have hk5 : Keeps (· = w.heap.size + 1 + 1) W4 (((((W4.setCell ⟨w.heap.size + 1 + 1, 0, none⟩ (.int .i64 2)).setCell ⟨w.heap.size + 1 + 1, 1, none⟩ (.int .i64 8)).setCell ⟨w.heap.size + 1 + 1, 2, none⟩ (.int .i64 3)).setCell ⟨w.heap.size + 1 + 1, 3, none⟩ (.int .i64 1)).setCell ⟨w.heap.size + 1 + 1, 4, none⟩ (.int .i64 16)) := ((((setCell_keeps _ _ _ _).again (setCell_keeps _ _ _ _)).again (setCell_keeps _ _ _ _)).again (setCell_keeps _ _ _ _)).again (setCell_keeps _ _ _ _)
  clear d0 d1 d2 d3 d4 df
  change Code.wp _ _ _ _ (((((W4.setCell ⟨w.heap.size + 1 + 1, 0, none⟩ (.int .i64 2)).setCell ⟨w.heap.size + 1 + 1, 1, none⟩ (.int .i64 8)).setCell ⟨w.heap.size + 1 + 1, 2, none⟩ (.int .i64 3)).setCell ⟨w.heap.size + 1 + 1, 3, none⟩ (.int .i64 1)).setCell ⟨w.heap.size + 1 + 1, 4, none⟩ (.int .i64 16))
  generalize (((((W4.setCell ⟨w.heap.size + 1 + 1, 0, none⟩ (.int .i64 2)).setCell ⟨w.heap.size + 1 + 1, 1, none⟩ (.int .i64 8)).setCell ⟨w.heap.size + 1 + 1, 2, none⟩ (.int .i64 3)).setCell ⟨w.heap.size + 1 + 1, 3, none⟩ (.int .i64 1)).setCell ⟨w.heap.size + 1 + 1, 4, none⟩ (.int .i64 16)) = W5 at *
  have hF := (hk5.block _ (Array.getElem?_eq_some_iff.1 hF0).1 (by omega)).trans hF0
  have h2 := (hk5.block _ (Array.getElem?_eq_some_iff.1 h20).1 (by omega)).trans h20
  have hB5 : Below w.heap.size w W5 := keeps_below hk5 (HB3.out.trans (HB4.out.mono HB3.out.size)) (Nat.le_trans HB3.out.size HB4.out.size) fun k e => by omega
  clear b4 b5 hk5 hF0 h20
  have HBX0 : Hid (BxF f00 (Fst.conf f00) w.heap.size W5.heap.size (.pointer none) (.pointer none) (W5.alloc (.cells #[.pointer none, .pointer none] 44))) := ⟨heap_alloc_old hF, heap_alloc_old h2, heap_alloc_old h3, heap_alloc_new W5 _⟩
  have HB6 : Hid (Below w.heap.size w (W5.alloc (.cells #[.pointer none, .pointer none] 44))) := hB5.alloc hB5.size _
  have hq4 : w.heap.size + 1 < W5.heap.size := (Array.getElem?_eq_some_iff.1 h2).1
  have HSZ := Lib.hid hB5.size
  clear hF h2 h3 hB5 HF H2 H3 HB3
  go_upto_region 5 with (fail)
  generalize W5.alloc (.cells #[.pointer none, .pointer none] 44) = W6 at *
  obtain ⟨q4, hq4e⟩ : ∃ q4, q4 = W5.heap.size := ⟨_, rfl⟩
  rw [← hq4e] at HBX0 hq4 HSZ
  simp only [← hq4e]
  clear hq4e
  have hb := HBX0.out
  have d0 := hcell hb.h3 0; have d1 := hcell hb.h3 1; have d2 := hcell hb.h3 2; have d3 := hcell hb.h3 3; have d4 := hcell hb.h3 4
  clear hb
  generalize hfc : (Fst.conf f00) = fc at *
  go_upto_region 6 with (first
    | (go_at_call 10; refine (rother_any fc _).mono ?_; rintro e w7 ⟨rfl, b7⟩; have HB7 := Lib.hid b7; clear b7 d0 d1 d2 d3 d4)
    | (go_at_call 9; refine (rnew10_any fc HOK.out w7).mono ?_; rintro e w8 ⟨rb, cr, rib, rnb, rfl, hR, bR⟩; have hbx8 := (HBX0.out.below HB7.out).below bR; have e0 := hcell hbx8.h4 1; have ef := hfrz hbx8.h4 1; have HR8 := Lib.hid (rd_of hR (HB6.out.trans (HB7.out.mono HB6.out.size)) bR); have HBX8 := Lib.hid hbx8; have HB8 : Hid (Below w.heap.size w w8) := (HB6.out.trans (HB7.out.mono HB6.out.size)).trans (bR.mono (Nat.le_trans HB6.out.size HB7.out.size)); clear hbx8 hR bR))
  have hf9 := setPair_fr HBX8.out.h4 1 (.pointer (some ⟨rb, 0, none⟩))
  have hB9 := below_set (o := 1) (v := .pointer (some ⟨rb, 0, none⟩)) HB8.out (HSZ.out)
  have hbx9 := HBX8.out.set (by omega) 1 (.pointer (some ⟨rb, 0, none⟩)) (.pointer none) (.pointer (some ⟨rb, 0, none⟩)) rfl
  have HR9 := Lib.hid (HR8.out.fr hf9 pairTy_r hB9)
  have HBX9 := Lib.hid hbx9; have HB9 := Lib.hid hB9
  clear hf9 hB9 hbx9 e0 ef HR8 HBX8 HB8
  generalize w8.setCell ⟨q4, 1, none⟩ (.pointer (some ⟨rb, 0, none⟩)) = W9 at *
  have hb := HBX9.out
  have d0 := hcell hb.h3 0; have d1 := hcell hb.h3 1; have d2 := hcell hb.h3 2; have d3 := hcell hb.h3 3; have d4 := hcell hb.h3 4
  clear hb
  go_upto_region 7 with (go_at_call 8; refine (wnew_ok fc HOK.out W9).mono ?_; rintro e w10 ⟨wb, cb, ib, nb, rfl, g1, g2, g3, g4, g5, g6, g7⟩; have hbx10 := HBX9.out.below g3.below; have e0 := hcell hbx10.h4 0; have ef := hfrz hbx10.h4 0; have HW10 := Lib.hid (ws_of HB9.out g1 g2 g3 g4 g5 g6 g7); have HR10 := Lib.hid (HR9.out.keep g3.below); have HBX10 := Lib.hid hbx10; clear hbx10 g1 g2 g3 g4 g5 g6 g7 d0 d1 d2 d3 d4)
  have hf11 := setPair_fr HBX10.out.h4 0 (.pointer (some ⟨wb, 0, none⟩))
  have hB11 := below_set (o := 0) (v := .pointer (some ⟨wb, 0, none⟩)) HW10.out.below (HSZ.out)
  have hbx11 := HBX10.out.set (by omega) 0 (.pointer (some ⟨wb, 0, none⟩)) (.pointer (some ⟨wb, 0, none⟩)) (.pointer (some ⟨rb, 0, none⟩)) rfl
  have htw : tword fc.bits 0 = fc.bits := HTW.out
  have hws := HW10.out.fr hf11 pairTy_w hB11
  rw [htw] at hws
  have hpr : Pr w (w10.setCell ⟨q4, 0, none⟩ (.pointer (some ⟨wb, 0, none⟩))) ⟨wb, cb, ib, nb⟩ ⟨rb, cr, rib, rnb⟩ (v0 fc) (CS.init [(2, fc.bits)]) ⟨rfold [(2, fc.bits)], 0, 0, 0, 0, 0⟩ := ⟨hws, HR10.out.fr hf11 pairTy_r hB11, init_one _ (by omega)⟩
  have hfar := init_far1 fc.bits
  have HPR := Lib.hid hpr; have HFAR := Lib.hid hfar; have HBX := Lib.hid hbx11
  clear hf11 hB11 hbx11 htw hws hpr hfar e0 ef HW10 HR10 HBX10 HBX9 HB9 HR9 HB7 HBX0 HB6
  generalize w10.setCell ⟨q4, 0, none⟩ (.pointer (some ⟨wb, 0, none⟩)) = W11 at *
  generalize hs1 : CS.init [(2, fc.bits)] = s1 at *
  generalize (⟨rfold [(2, fc.bits)], 0, 0, 0, 0, 0⟩ : RS) = x1 at *
  obtain ⟨B, hBe⟩ : ∃ B : WB, B = ⟨wb, cb, ib, nb⟩ := ⟨_, rfl⟩
  obtain ⟨R, hRe⟩ : ∃ R : WB, R = ⟨rb, cr, rib, rnb⟩ := ⟨_, rfl⟩
  rw [← hBe, ← hRe] at HPR
  have ewb : wb = B.wb := by rw [hBe]
  have erb : rb = R.wb := by rw [hRe]
  subst ewb erb
  clear hBe hRe
  have hb := HBX.out
  have c40 := hcell hb.h4 0
  have cF5 : W11.cell? ⟨w.heap.size, 5, none⟩ = some (.bool false) := hcell hb.hF 5
  have cF2 := hcell hb.hF 6
  have c30 := hcell hb.h3 0
  have c41 := hcell hb.h4 1
  clear hb
  have HS1 := Lib.hid hs1; have HFC := Lib.hid hfc
  clear hs1 hfc
  have cF5 : W11.cell? ⟨w.heap.size, 5, none⟩ = some (.bool false) := hcell HBX.out.hF 5
  have cF6 : W11.cell? ⟨w.heap.size, 6, none⟩ = some (.slice none 0 0) := hcell HBX.out.hF 6
  have cF7 : W11.cell? ⟨w.heap.size, 7, none⟩ = some (.slice none 0 0) := hcell HBX.out.hF 7
  have cF8 : W11.cell? ⟨w.heap.size, 8, none⟩ = some (.slice none 0 0) := hcell HBX.out.hF 8
  have cF9 : W11.cell? ⟨w.heap.size, 9, none⟩ = some (.int .i64 0) := hcell HBX.out.hF 9
  have e20 := hcell HBX.out.h2 0
  have e21 := hcell HBX.out.h2 1
  have ef := hfrz HBX.out.h2
  clear cF2
  go_wp2_with fail
  refine wp_loop_rounds 1 ?_
  rw [rounds_succ]
  go_wp2_with fail
  refine wp_loop_rounds 1 ?_
  rw [rounds_succ]
  go_wp2_with fail
  refine wp_loop_rounds 1 ?_
  rw [rounds_succ]
  go_wp2_with fail
  refine wp_loop_rounds 1 ?_
  rw [rounds_succ]
  go_wp2
  have HBX6 := HBX
  have HPR6 := HPR
  have h2s := setCell_same (setCell_same HBX6.out.h2 0 (.pointer (some ⟨B.wb, 0, none⟩))) 1 (.pointer (some ⟨R.wb, 0, none⟩))
  have r0 := hcell h2s 0
  have r1 := hcell h2s 1
  refine bodyPost_ret (v := .agg #[.pointer (some ⟨B.wb, 0, none⟩), .pointer (some ⟨R.wb, 0, none⟩)]) (by simp [results, Try.results19, go_sem, r0, r1]; done) rfl ?_
  have hf2 := (setPair_fr HBX6.out.h2 0 (.pointer (some ⟨B.wb, 0, none⟩))).trans (setPair_fr (setCell_same HBX6.out.h2 0 (.pointer (some ⟨B.wb, 0, none⟩))) 1 (.pointer (some ⟨R.wb, 0, none⟩)))
  have hB2 := below_set (o := 1) (v := .pointer (some ⟨R.wb, 0, none⟩)) (below_set (o := 0) (v := .pointer (some ⟨B.wb, 0, none⟩)) HPR6.out.ws.below (Nat.le_succ _)) (Nat.le_succ _)
  exact ⟨B, R, _, s1, x1, rfl, ⟨HPR6.out.ws.fr hf2 pairTy_w hB2, HPR6.out.rd.fr hf2 pairTy_r hB2, HPR6.out.al⟩, by rw [show Fst.conf f00 = fc from HFC.out]; rfl, ⟨by have := HFAR.out.1; omega, by have := HFAR.out.2.1; omega, by have := HFAR.out.2.2; omega⟩, by rw [show Fst.conf f00 = fc from HFC.out]; exact HOK.out, fun _ _ _ _ => by
    rw [show Fst.conf f00 = fc from HFC.out]; exact HS1.out.symm⟩
end Go.Proofs.Yteofdldlmmkgbaa

/-
  Two arrays of integers by value: read from memory, held against each other.
-/
namespace Go.Proofs.Yteofdldlmmkgbaa
open Go.RowKit
set_option linter.unusedVariables false

theorem eqItems_ints {P : Program} {E : TypeId} {ik : IntKind} {inf : TypeInfo} (hE : P.underlying E = some (.int ik)) (hi : P.info? E = some inf) (hs : inf.size = 1) (d : Nat) (xs ys : List Int) (w : World) :
    ∀ is : List Nat, (∀ i ∈ is, i < xs.length ∧ i < ys.length) → (Op.eqItems (d + 1) E 1 (xs.map (Value.int ik)).toArray (ys.map (Value.int ik)).toArray is).run P w = .ok (is.all fun i => xs.getD i 0 == ys.getD i 0) w
  | [], _ => by simp [Op.eqItems]
  | i :: is, h => by
    have ih := eqItems_ints hE hi hs d xs ys w is (fun j hj => h j (List.mem_cons_of_mem _ hj))
    obtain ⟨h1, h2⟩ := h i List.mem_cons_self
    have p1 : (part E (xs.map (Value.int ik)).toArray (i * 1)).run P w = .ok (.int ik (xs.getD i 0)) w := by
      simp [part, isAgg, run_underlying hE, h1, List.getD_eq_getElem?_getD]
    have p2 : (part E (ys.map (Value.int ik)).toArray (i * 1)).run P w = .ok (.int ik (ys.getD i 0)) w := by
      simp [part, isAgg, run_underlying hE, h2, List.getD_eq_getElem?_getD]
    have e := run_equalIn_int w d E ik ik (xs.getD i 0) (ys.getD i 0) hE
    simp only [Op.eqItems, Sem.run_bind, p1, p2, e, Result.andThen_ok, List.all_cons]
    cases hb : (xs.getD i 0 == ys.getD i 0)
    · simp
    · simpa [hb] using ih
theorem all_eq (xs ys : List Int) (n : Nat) (h1 : xs.length = n) (h2 : ys.length = n) : ((List.range n).all fun i => xs.getD i 0 == ys.getD i 0) = (xs == ys) := by
  rw [Bool.eq_iff_iff, List.all_eq_true, beq_iff_eq]
  constructor
  · intro h
    refine List.ext_getElem (by omega) fun i hi hj => ?_
    have := h i (List.mem_range.2 (by omega))
    simpa [List.getD_eq_getElem?_getD, hi, hj] using this
  · rintro rfl i _
    simp
/-- Two arrays of integers, held against each other. -/
theorem run_eq_ints {P : Program} {T E n : Nat} {ik : IntKind} {inf : TypeInfo} (hT : P.underlying T = some (.array n E)) (hE : P.underlying E = some (.int ik)) (hi : P.info? E = some inf) (hs : inf.size = 1) (hc : P.cellsOf E = 1) (d : Nat) (xs ys : List Int) (h1 : xs.length = n) (h2 : ys.length = n) (w : World) :
    (Op.equalIn (d + 2) T (.agg (xs.map (Value.int ik)).toArray) (.agg (ys.map (Value.int ik)).toArray)).run P w = .ok (xs == ys) w := by
  rw [run_equalIn_array w (d + 1) _ _ hT hi, hc, eqItems_ints hE hi hs d xs ys w _ (fun i hi => by have := List.mem_range.1 hi; omega), all_eq xs ys n h1 h2]
theorem tick_eq (xs ys : List Int) (h1 : xs.length = 64) (h2 : ys.length = 64) (w : World) : (Op.equalIn 10000 40 (.agg (tkV xs).toArray) (.agg (tkV ys).toArray)).run Try.prog w = .ok (xs == ys) w := by
  obtain ⟨inf, hi, hs⟩ : ∃ inf, Try.prog.info? 39 = some inf ∧ inf.size = 1 := by
    have h : (Try.prog.info? 39).map (·.size) = some 1 := by kernel_rfl
    cases hh : Try.prog.info? 39 with
    | none => simp [hh] at h
    | some inf => exact ⟨inf, rfl, by simpa [hh] using h⟩
  exact run_eq_ints (P := Try.prog) (ik := .u64) Try.underlying40 Try.underlying39 hi hs (by kernel_rfl) 9998 xs ys h1 h2 w
theorem tk_range {W : World} {b T : Nat} {B : WB} {V : WV} (h : W.heap[b]? = some (.cells (B.val V) T (0, 0))) (ht : V.tk.length = 64) : W.rangeAt b 8 (tkV V.tk) := fun j v hv => by
  have hj : j < 64 := by
    have := (List.getElem?_eq_some_iff.1 hv).1
    simpa [tkV, ht] using this
  have h1 : W.cell? ⟨b, 8 + j, none⟩ = (B.val V)[8 + j]? := by unfold World.cell?; simp only; rw [h]; rfl
  rw [h1, val_tkat B V ht j hj, ← hv]
  simp [tkV, List.getD_eq_getElem?_getD, ht, hj]
theorem tk_load {W : World} {b T : Nat} {B : WB} {V : WV} (h : W.heap[b]? = some (.cells (B.val V) T (0, 0))) (ht : V.tk.length = 64) : (Instr.loadAt 40 (.pointer (some ⟨b, 8, none⟩))).run Try.prog W = .ok (.agg (tkV V.tk).toArray) W :=
  run_loadAt_mid W b 8 _ (tkV V.tk) _ (tk_range h ht) Try.underlying40 rfl (by rw [show (tkV V.tk).length = 64 by simp [tkV, ht]]; kernel_rfl)
theorem quiet_load {P : Program} {C : World → Prop} {o : Oper} {a : Act} {K : Act → Prop} (ty : TypeId) (x : Operand) (ho : o.op = .load ty x) (p v : Value) (hx : a.eval x = p) (hl : ∀ w, C w → (Instr.loadAt ty p).run P w = .ok v w) (hk : K (a.put o.dst v)) : o.quiet P a C K :=
  ⟨v, fun w hw => by
    unfold Oper.quietAt execOp
    simp only [ho, hx, Sem.run_bind, hl w hw, Result.andThen_ok, Sem.run_pure]
    exact ⟨rfl, rfl⟩, hk⟩
end Go.Proofs.Yteofdldlmmkgbaa

/-
  Pair.Same: both are as far.
-/
namespace Go.Proofs.Yteofdldlmmkgbaa
open Go.RowKit Go.Maps
set_option linter.unusedVariables false

theorem own_sl {w : World} {base e size n : Nat} {v : Value} {xs : List Value} (h : w.ownsRow base e size v n xs) : ∃ a cap, v = .slice a n cap := by
  obtain ⟨h1, ⟨rfl, rfl⟩ | ⟨g, cap, cur, hv, r⟩⟩ := h
  · exact ⟨_, _, rfl⟩
  · exact ⟨_, _, hv⟩
theorem notes_any {w : World} {base nb TN : Nat} {l : List Nte} (h : NL w base nb 197 TN .u8 l) : ∃ a cap, w.cell? ⟨nb, 0, none⟩ = some (.slice a l.length cap) ∧ Calls Try.prog 69 #[.pointer (some ⟨nb, 0, none⟩)] w fun e w' => e = .returned (.slice a l.length cap) ∧ w' = w := by
  obtain ⟨v, h1, h2, h3⟩ := h
  obtain ⟨a, cap, rfl⟩ := own_sl h3
  have c0 : w.cell? ⟨nb, 0, none⟩ = some (.slice a l.length cap) := hcell h1 0
  refine ⟨a, cap, c0, ?_⟩
  clear h1 h2 h3
  go_enter Try.func69, Try.ntmps69
  go_wp2
  go_ret
  exact ⟨rfl, rfl⟩
theorem ncount_any {w : World} {base nb TN : Nat} {l : List Nte} (h : NL w base nb 197 TN .u8 l) : Calls Try.prog 21 #[.pointer (some ⟨nb, 0, none⟩)] w fun e w' => e = .returned (.int .i64 l.length) ∧ w' = w := by
  obtain ⟨a, cap, -, hn⟩ := notes_any h
  clear h
  go_enter Try.func21, Try.ntmps21
  go_wp2_with (go_at_call 69; refine hn.mono ?_; rintro e w' ⟨rfl, rfl⟩)
  go_ret
  exact ⟨rfl, rfl⟩
section
variable {w0 w : World} {B R : WB} {V : WV} {s : CS} {x : RS}
theorem WS.last (h : WS w0 w B V s) : Calls Try.prog 30 #[.pointer (some ⟨B.cb, 0, none⟩)] w fun e w' => e = .returned (.agg #[.int .u8 s.kind, .int .u64 s.addr, .int .u64 s.was, .int .u64 s.is]) ∧ Below w.heap.size w w' := by
  obtain ⟨⟨S, hS⟩, hB⟩ := h.own
  exact last_any w _ B.cb s S hS
theorem WS.icount (h : WS w0 w B V s) : Calls Try.prog 74 #[.pointer (some ⟨B.ib, 0, none⟩)] w fun e w' => e = .returned (.int .i64 V.its.length) ∧ w = w' := by
  obtain ⟨S, hS⟩ := h.ar
  exact count_arena _ _ _ S w hS
theorem RD.icount (h : RD w0 w R V x) : Calls Try.prog 58 #[.pointer (some ⟨R.ib, 0, none⟩)] w fun e w' => e = .returned (.int .i64 V.its.length) ∧ w = w' := by
  obtain ⟨S, hS⟩ := h.ar
  exact rcount_arena _ _ _ S w hS
theorem WS.hd (h : WS w0 w B V s) : w.cell? ⟨B.wb, 0, none⟩ = some (.pointer (some ⟨B.cb, 0, none⟩)) ∧ w.cell? ⟨B.wb, 1, none⟩ = some (.pointer (some ⟨B.ib, 0, none⟩)) ∧ w.cell? ⟨B.wb, 2, none⟩ = some (.pointer (some ⟨B.nb, 0, none⟩)) ∧ w.cell? ⟨B.wb, 72, none⟩ = some (.int .i64 V.hd) :=
  ⟨h.c0, (h.cell 1).trans (val_at B V h.tkl).2.1, (h.cell 2).trans (val_at B V h.tkl).2.2.1, (h.cell 72).trans (val_at B V h.tkl).2.2.2.2.2⟩
theorem RD.hd (h : RD w0 w R V x) : w.cell? ⟨R.wb, 0, none⟩ = some (.pointer (some ⟨R.cb, 0, none⟩)) ∧ w.cell? ⟨R.wb, 1, none⟩ = some (.pointer (some ⟨R.ib, 0, none⟩)) ∧ w.cell? ⟨R.wb, 2, none⟩ = some (.pointer (some ⟨R.nb, 0, none⟩)) ∧ w.cell? ⟨R.wb, 72, none⟩ = some (.int .i64 V.hd) :=
  ⟨h.c0, (h.cell 1).trans (val_at R V h.tkl).2.1, (h.cell 2).trans (val_at R V h.tkl).2.2.1, (h.cell 72).trans (val_at R V h.tkl).2.2.2.2.2⟩
theorem RD.lastc (h : RD w0 w R V x) : w.cell? ⟨R.cb, 2, none⟩ = some (.int .u8 x.kind) ∧ w.cell? ⟨R.cb, 3, none⟩ = some (.int .u64 x.addr) ∧ w.cell? ⟨R.cb, 4, none⟩ = some (.int .u64 x.was) ∧ w.cell? ⟨R.cb, 5, none⟩ = some (.int .u64 x.is) := by
  obtain ⟨lv, hr⟩ := h.ref
  exact ⟨hr.cell 2, hr.cell 3, hr.cell 4, hr.cell 5⟩
set_option maxRecDepth 10000 in
set_option maxHeartbeats 2000000 in
theorem psame_any (h : Pr w0 w B R V s x) : Calls Try.prog 56 #[.agg #[.pointer (some ⟨B.wb, 0, none⟩), .pointer (some ⟨R.wb, 0, none⟩)]] w fun e w' => e = .returned (.bool true) ∧ Below w.heap.size w w' := by
  have hq0 := heap_alloc_new w (.cells #[.pointer (some ⟨B.wb, 0, none⟩), .pointer (some ⟨R.wb, 0, none⟩)] 44)
  have hB1 := below_alloc w (.cells #[.pointer (some ⟨B.wb, 0, none⟩), .pointer (some ⟨R.wb, 0, none⟩)] 44)
  have H1 := Lib.hid (h.keep hB1); have HQ := Lib.hid hq0; have HB1 := Lib.hid hB1
  have hal := h.al
  have htq := tick_eq V.tk V.tk h.ws.tkl h.ws.tkl
  rw [show (V.tk == V.tk) = true from beq_self_eq_true _] at htq
  have HTQ := Lib.hid htq
  clear h hq0 hB1 htq
  go_enter Try.func56, Try.ntmps56
  go_upto_region 1 with (fail)
  change Code.wp _ _ _ _ (w.alloc (.cells #[.pointer (some ⟨B.wb, 0, none⟩), .pointer (some ⟨R.wb, 0, none⟩)] 44))
  generalize w.alloc (.cells #[.pointer (some ⟨B.wb, 0, none⟩), .pointer (some ⟨R.wb, 0, none⟩)] 44) = w1 at *
  have p0 : w1.cell? ⟨w.heap.size, 0, none⟩ = some (.pointer (some ⟨B.wb, 0, none⟩)) := hcell HQ.out 0
  have p1 : w1.cell? ⟨w.heap.size, 1, none⟩ = some (.pointer (some ⟨R.wb, 0, none⟩)) := hcell HQ.out 1
  have HAL := Lib.hid hal
  clear hal
  go_upto_region 3 with (fail)
  have q0 := fun st : ExtW w1 => st.cell p0
  have q1 := fun st : ExtW w1 => st.cell p1
  obtain ⟨c0, c1, c2, c72⟩ := H1.out.ws.hd
  obtain ⟨r0, r1, r2, r72⟩ := H1.out.rd.hd
  obtain ⟨l2, l3, l4, l5⟩ := H1.out.rd.lastc
  rw [← HAL.out.kind] at l2; rw [← HAL.out.addr] at l3; rw [← HAL.out.was] at l4; rw [← HAL.out.is] at l5
  obtain ⟨nv, hn1, hn2, hn3⟩ := H1.out.rd.nt
  obtain ⟨na, ncap, hnv⟩ := own_sl hn3
  subst hnv
  have n0 : w1.cell? ⟨R.nb, 0, none⟩ = some (.slice na V.nts.length ncap) := hcell hn1 0
  have d0 := fun st : ExtW w1 => st.cell c0
  have d1 := fun st : ExtW w1 => st.cell c1
  have d2 := fun st : ExtW w1 => st.cell c2
  have d3 := fun st : ExtW w1 => st.cell c72
  have g0 := fun st : ExtW w1 => st.cell r0
  have g1 := fun st : ExtW w1 => st.cell r1
  have g2 := fun st : ExtW w1 => st.cell r2
  have g3 := fun st : ExtW w1 => st.cell r72
  have k2 := fun st : ExtW w1 => st.cell l2
  have k3 := fun st : ExtW w1 => st.cell l3
  have k4 := fun st : ExtW w1 => st.cell l4
  have k5 := fun st : ExtW w1 => st.cell l5
  have m0 := fun st : ExtW w1 => st.cell n0
  have hs1 := fun st : ExtW w1 => (steps_any (H1.out.keep st.below).ws.wld).mono fun e w' (h : _ ∧ _) => And.intro h.1 h.2.symm
  have hs2 := fun st : ExtW w1 => (rwsteps (H1.out.keep st.below).rd).mono fun e w' (h : _ ∧ _) => And.intro h.1 h.2.symm
  rw [← HAL.out.cnt] at hs2
  have hls := fun st : ExtW w1 => (H1.out.keep st.below).ws.last
  have hnc := fun st : ExtW w1 => (ncount_any (H1.out.keep st.below).ws.nt).mono fun e w' (h : _ ∧ _) => And.intro h.1 h.2.symm
  have hic := fun st : ExtW w1 => (H1.out.keep st.below).ws.icount
  have hri := fun st : ExtW w1 => (H1.out.keep st.below).rd.icount
  have ht1 := fun st : ExtW w1 => tk_load (H1.out.keep st.below).ws.blk (H1.out.keep st.below).ws.tkl
  have ht2 := fun st : ExtW w1 => tk_load (H1.out.keep st.below).rd.blk (H1.out.keep st.below).rd.tkl
  have htq := fun W => HTQ.out W
  clear p0 p1 c0 c1 c2 c72 r0 r1 r2 r72 l2 l3 l4 l5 n0 hn1 hn2 hn3
  simp only [List.append_eq, List.cons_append, List.nil_append]
  refine wp_region_ext (by kernel_rfl) (by kernel_rfl) ?_
  repeat (go_big_quiet_step (first
    | (go_at_call 20; with_reducible refine calls_ext_same (hs1 _))
    | (go_at_call 100; with_reducible refine calls_ext_same (hs2 _))
    | (go_at_call 30; with_reducible refine calls_ext (hls _))
    | (go_at_call 21; with_reducible refine calls_ext_same (hnc _))
    | (go_at_call 74; with_reducible refine calls_ext_same (hic _))
    | (go_at_call 58; with_reducible refine calls_ext_same (hri _))))
  go_big_quiet_want
  refine quiet_load 40 _ rfl _ (.agg (tkV V.tk).toArray) rfl (fun W hW => ?_) ?_
  · obtain ⟨st, rfl⟩ := hW
    exact ht1 st
  go_frame
  go_big_quiet_on
  repeat (go_big_quiet_step (fail))
  go_big_quiet_want
  refine quiet_load 40 _ rfl _ (.agg (tkV V.tk).toArray) rfl (fun W hW => ?_) ?_
  · obtain ⟨st, rfl⟩ := hW
    exact ht2 st
  go_frame
  go_big_quiet_on
  repeat (go_big_quiet_step (fail))
  refine wpQuiet_nil ?_
  rintro W2 ⟨⟨W3, hW⟩, rfl⟩
  clear q0 q1 d0 d1 d2 d3 g0 g1 g2 g3 k2 k3 k4 k5 m0 hs1 hs2 hls hnc hic hri ht1 ht2 htq
  go_wp2
  go_ret
  exact ⟨rfl, HB1.out.trans (hW.mono HB1.out.size)⟩
end
end Go.Proofs.Yteofdldlmmkgbaa

/-
  The sort of words, by their addresses: whatever length.
-/
namespace Go.Proofs.Yteofdldlmmkgbaa
open Go.RowKit Go.Shelf Go.Lib Go.Sort
set_option linter.unusedVariables false

theorem isnan_any (a : Int) (w : World) : Calls Try.prog 149 #[.int .u64 a] w fun e w' => e = .returned (.bool false) ∧ w' = w := by
  go_enter Try.func149, Try.ntmps149
  go_wp2
  go_ret
  exact ⟨rfl, rfl⟩
theorem cmp_any (a b : Int) (w : World) : Calls Try.prog 130 #[.int .u64 a, .int .u64 b] w fun e w' => e = .returned (.int .i64 (Lib.compareInt a b)) ∧ w' = w := by
  unfold Lib.compareInt
  by_cases h1 : a < b
  · rw [if_pos h1]
    go_enter Try.func130, Try.ntmps130
    go_wp2_with (go_at_call 149; refine (isnan_any _ _).mono ?_; rintro e w1 ⟨rfl, rfl⟩)
    go_ret
    exact ⟨rfl, rfl⟩
  · rw [if_neg h1]
    by_cases h2 : b < a
    · rw [if_pos h2]
      go_enter Try.func130, Try.ntmps130
      go_wp2_with (go_at_call 149; refine (isnan_any _ _).mono ?_; rintro e w1 ⟨rfl, rfl⟩)
      go_ret
      exact ⟨rfl, rfl⟩
    · rw [if_neg h2]
      go_enter Try.func130, Try.ntmps130
      go_wp2_with (go_at_call 149; refine (isnan_any _ _).mono ?_; rintro e w1 ⟨rfl, rfl⟩)
      go_ret
      exact ⟨rfl, rfl⟩
/-- A word's two cells. -/
def encW (x : Int × Int) : List Value := [.int .u64 x.1, .int .u64 x.2]
def cmpW (x y : Int × Int) : Int := Lib.compareInt x.1 y.1
theorem closure_any (x y : Int × Int) (W : World) : Calls Try.prog 129 #[.agg #[.int .u64 x.1, .int .u64 x.2], .agg #[.int .u64 y.1, .int .u64 y.2]] W fun e w' => e = .returned (.int .i64 (cmpW x y)) ∧ ∃ q os', w' = grow (W.drewN q) os' := by
  have hcon := fun W' => cmp_any x.1 y.1 W'
  unfold cmpW
  generalize Lib.compareInt x.1 y.1 = r at hcon ⊢
  go_enter Try.func129, Try.ntmps129
  go_wp2_with (go_at_call 130; refine (hcon _).mono ?_; rintro e w' ⟨rfl, rfl⟩)
  go_ret
  exact ⟨rfl, 0, _, by rw [alloc_eq_grow, alloc_eq_grow, grow_grow]; rfl⟩
theorem cmpLaysW (blk off size : Nat) (w : World) : CmpLays Try.prog 129 #[] encW 2 cmpW blk off size w := fun _ _ _ _ x y => closure_any x y _
theorem ltW (x y : Int × Int) : ltOf cmpW x y = decide (x.1 < y.1) := by
  unfold ltOf cmpW Lib.compareInt
  by_cases h1 : x.1 < y.1
  · simp [h1]
  · by_cases h2 : y.1 < x.1 <;> simp [h1, h2]
theorem swoW : SWO (ltOf cmpW) where
  irrefl x := by rw [ltW]; simp
  trans x y z h1 h2 := by rw [ltW] at *; simp at *; omega
  ntrans x y z h1 h2 := by rw [ltW] at *; simp at *; omega
theorem sort_any (blk off cap : Nat) (d : Array (Int × Int)) (w : World) (hH : HoldsK encW 2 w blk off d) (hblk : blk < w.heap.size) (hsz : d.size < 4611686018427387904) :
    Calls Try.prog 128 #[.slice (some ⟨blk, off, none⟩) d.size cap, .func (.func 129) #[] #[]] w fun e w' => e = .returned (.tuple #[]) ∧ ∃ d' n os, PermIn 0 d.size d d' ∧ SortedIn (ltOf cmpW) 0 d.size d' ∧ w' = sortWorldK encW 2 w blk off n d' os := by
  have eg : ∀ args w, (callFunc 129 args).run Try.prog w = .ok (.enter 129 args) w := fun args w => by kernel_rfl
  exact AnyQ.slices_SortFunc sortW 2 Try.isAgg121 Try.sizeOf121 encW (fun _ => rfl) (fun x v hv => by simp [encW] at hv; rcases hv with rfl | rfl <;> rfl) cmpW swoW 129 #[] blk off cap d w eg (cmpLaysW blk off d.size w) hH hblk hsz
end Go.Proofs.Yteofdldlmmkgbaa
