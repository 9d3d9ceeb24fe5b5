/-
  A pair of worlds: what its makers share; the pair with nothing ahead.
-/
import Derived.Test.YtdabcnjjbfmkaaaPairPut
namespace Go.Proofs.Ytdabcnjjbfmkaaa
open Go.RowKit
set_option linter.unusedVariables false

/-- Triples of bytes that may be read. -/
structure Tri (w : World) (a : Option Addr) (cap : Nat) (l : List (Int × Int × Int)) : Prop where
  le : l.length ≤ cap
  most : cap ≤ maxLen
  bd : ∀ p ∈ l, (0 ≤ p.1 ∧ p.1 < 256) ∧ (0 ≤ p.2.1 ∧ p.2.1 < 256) ∧ (0 ≤ p.2.2 ∧ p.2.2 < 256)
  cell : l = [] ∨ ∃ b off, a = some ⟨b, off, none⟩ ∧ ∀ i, (hi : i < l.length) → w.cell? ⟨b, off + i * 3, none⟩ = some (.int .u8 (l[i]).1) ∧ w.cell? ⟨b, off + i * 3 + 1, none⟩ = some (.int .u8 (l[i]).2.1) ∧ w.cell? ⟨b, off + i * 3 + 2, none⟩ = some (.int .u8 (l[i]).2.2)
theorem Tri.at {w : World} {a : Option Addr} {cap : Nat} {l : List (Int × Int × Int)} (h : Tri w a cap l) (i : Nat) (hi : i < l.length) : ∃ b off x y z, a = some ⟨b, off, none⟩ ∧ ((0 ≤ x ∧ x < 256) ∧ (0 ≤ y ∧ y < 256) ∧ (0 ≤ z ∧ z < 256)) ∧
    w.cell? ⟨b, off + i * 3, none⟩ = some (.int .u8 x) ∧ w.cell? ⟨b, off + i * 3 + 1, none⟩ = some (.int .u8 y) ∧ w.cell? ⟨b, off + i * 3 + 2, none⟩ = some (.int .u8 z) := by
  rcases h.cell with rfl | ⟨b, off, rfl, h5⟩
  · simp at hi
  · exact ⟨b, off, _, _, _, rfl, h.bd _ (List.getElem_mem hi), h5 i hi⟩
theorem Tri.below {w w' : World} {a : Option Addr} {cap : Nat} {l : List (Int × Int × Int)} (h : Tri w a cap l) (hb : Below w.heap.size w w') : Tri w' a cap l := by
  refine ⟨h.le, h.most, h.bd, h.cell.imp id fun ⟨b, off, e, h5⟩ => ⟨b, off, e, fun i hi => ?_⟩⟩
  obtain ⟨h6, h7, h8⟩ := h5 i hi
  exact ⟨(hb.cell (World.block_lt_of_cell? _ _ h6)).trans h6, (hb.cell (World.block_lt_of_cell? _ _ h7)).trans h7, (hb.cell (World.block_lt_of_cell? _ _ h8)).trans h8⟩
/-- What a First holds. -/
structure Fst where
  c : Conf
  gr : Bool
  ia : Option Addr
  ic : Nat
  its : List Itm
  pa : Option Addr
  pc : Nat
  puts : List (Int × Int × Int)
  sa : Option Addr
  sc : Nat
  sts : List (Int × Int)
  ticks : Int
def Fst.cells (f : Fst) : Array Value := #[.int .i64 f.c.bits, .int .i64 f.c.budget, .int .i64 f.c.tries, .int .i64 f.c.quantum, .int .i64 f.c.way, .bool f.gr, .slice f.ia f.its.length f.ic, .slice f.pa f.puts.length f.pc, .slice f.sa f.sts.length f.sc, .int .i64 f.ticks]
def Fst.conf (f : Fst) : Conf := if f.c.ok = true then f.c else conf10
/-- It may be read, and is not great. -/
structure FstIn (w : World) (f : Fst) : Prop where
  its : Itms w (.slice f.ia f.its.length f.ic) f.its
  puts : Tri w f.pa f.pc f.puts
  sts : RWds w f.sa f.sc f.sts
  ni : f.its.length ≤ 40
  np : f.puts.length ≤ 60
  ns : f.sts.length ≤ 60
  key : ∀ y ∈ f.its, y.key.size ≤ 1000
theorem FstIn.below {w w' : World} {f : Fst} (h : FstIn w f) (hb : Below w.heap.size w w') : FstIn w' f :=
  ⟨h.its.below hb (Nat.le_refl _), h.puts.below hb, h.sts.below hb, h.ni, h.np, h.ns, h.key⟩

def v0 (c : Conf) : WV := ⟨c, [], [], List.replicate 64 0, -1, []⟩
theorem tk_eq : tkV (List.replicate 64 0) = tk0 := by simp [tkV, tk0]
theorem rd_of {w w1 w2 : World} {rb cr rib rnb : Nat} {c : Conf} {x : RS} (h : RWld w1 w2 rb cr rib rnb c x) (hB : Below w.heap.size w w1) (hb : Below w1.heap.size w1 w2) : RD w w2 ⟨rb, cr, rib, rnb⟩ (v0 c) x := by
  obtain ⟨lv, hr⟩ := h.ref
  have hs := hB.size
  refine ⟨hB.trans (hb.mono hs), ⟨lv, hr.base hs⟩, ?_, Nat.le_trans hs h.lo, ⟨_, none, 0, ⟨h.items, World.ownsRow_nil _ _ _ _, Nat.le_trans hs h.ilo, by simp [Value.ownBlock]⟩, rfl⟩, NL.nil _ _ h.notes (Nat.le_trans hs h.nlo), by simp [v0]⟩
  have := h.blk
  unfold WB.val v0
  simp only [tk_eq]
  exact this
theorem ws_of {w w1 w2 : World} {wb cb ib nb : Nat} {c : Conf} {s : CS} (hB : Below w.heap.size w w1) (h1 : w2.heap[wb]? = some (.cells (worldV cb ib nb c tk0 (-1)).toArray 42 (0, 0))) (h2 : w1.heap.size ≤ wb) (h3 : Own w1 w2 cb s)
    (h4 : w2.heap[ib]? = some (.cells #[.slice none 0 0, .int .i64 0] 119 (0, 0))) (h5 : w1.heap.size ≤ ib) (h6 : w2.heap[nb]? = some (.cells #[.slice none 0 0] 198 (0, 0))) (h7 : w1.heap.size ≤ nb) : WS w w2 ⟨wb, cb, ib, nb⟩ (v0 c) s := by
  have hs := hB.size
  have ha : ArenaAt w2 w.heap.size ib none 0 [] [] := ⟨by simpa using h4, World.ownsRow_nil _ _ _ _, Nat.le_trans hs h5, by simp, by simp, by simp, by simp, by simp, by simp, by simp [Value.ownBlock], by simp⟩
  refine ⟨h3.base hB, ?_, Nat.le_trans hs h2, ⟨_, none, 0, [], ha, rfl⟩, NL.nil _ _ h6 (Nat.le_trans hs h7), by simp [v0], FM.nil _ _⟩
  unfold WB.val v0
  simp only [tk_eq]
  exact h1
theorem tword_bits {c : Conf} (hc : c.ok = true) : tword c.bits 0 = c.bits ∧ 1 ≤ c.bits ∧ c.bits ≤ 12 := by
  simp only [Conf.ok, Bool.and_eq_true, decide_eq_true_eq] at hc
  unfold tword; omega
theorem init_one (v : Int) (hv : v ≠ 0) : Alike (CS.init [(2, v)]) ⟨rfold [(2, v)], 0, 0, 0, 0, 0⟩ := by
  have e : rfold [(2, v)] = [(2, v)] := by
    show rput [] 2 v = _
    rw [rput_ins (l := []) List.Pairwise.nil]; simp [rins, hv]
  rw [e]
  refine ⟨?_, List.pairwise_singleton _ _, fun p hp => by simp only [List.mem_singleton] at hp; subst hp; exact hv, rfl, rfl, rfl, rfl, rfl⟩
  funext a
  show upd (fun _ => 0) 2 v a = _
  unfold upd
  by_cases h : a = 2
  · simp [h, rlook]
  · simp [h, rlook, Ne.symm h]
theorem init_far1 (v : Int) : Far (CS.init [(2, v)]) ⟨rfold [(2, v)], 0, 0, 0, 0, 0⟩ 1 := by
  have := rfold_len [(2, v)]
  exact ⟨by show (1 : Nat) ≤ 1; omega, by show (0 : Nat) ≤ 1; omega, by simpa using this⟩

/-- The four blocks that Begin makes. -/
structure BxF (f : Fst) (c : Conf) (q q4 : Nat) (vw vr : Value) (W : World) : Prop where
  hF : W.heap[q]? = some (.cells f.cells 28 (0, 0))
  h2 : W.heap[q + 1]? = some (.cells #[.pointer none, .pointer none] 34 (0, 0))
  h3 : W.heap[q + 2]? = some (.cells #[.int .i64 c.bits, .int .i64 c.budget, .int .i64 c.tries, .int .i64 c.quantum, .int .i64 c.way] 23 (0, 0))
  h4 : W.heap[q4]? = some (.cells #[vw, vr] 34 (0, 0))
theorem BxF.fr {f : Fst} {c : Conf} {q q4 : Nat} {vw vr : Value} {W W' : World} {K : TypeId → Bool} {mp : Bool} (h : BxF f c q q4 vw vr W) (hf : Fr K mp W W') (h1 : K 28 = false) (h2 : K 34 = false) (h3 : K 23 = false) : BxF f c q q4 vw vr W' :=
  ⟨hf.cells _ _ _ _ h.hF h1, hf.cells _ _ _ _ h.h2 h2, hf.cells _ _ _ _ h.h3 h3, hf.cells _ _ _ _ h.h4 h2⟩
theorem BxF.below {f : Fst} {c : Conf} {q q4 : Nat} {vw vr : Value} {W W' : World} (h : BxF f c q q4 vw vr W) (hb : Below W.heap.size W W') : BxF f c q q4 vw vr W' := h.fr (below_fr hb (fun _ => false) false) rfl rfl rfl
theorem BxF.set {f : Fst} {c : Conf} {q q4 : Nat} {vw vr : Value} {W : World} (h : BxF f c q q4 vw vr W) (hne : q4 ≠ q + 1) (o : Nat) (v : Value) (vw' vr' : Value) (hv : (#[vw, vr] : Array Value).setIfInBounds o v = #[vw', vr']) : BxF f c q q4 vw' vr' (W.setCell ⟨q4, o, none⟩ v) := by
  have hk := setCell_keeps W q4 o v
  have ne1 : q ≠ q4 := fun c => by
    have := h.hF; rw [c, h.h4] at this; simp only [Option.some.injEq, Obj.cells.injEq] at this; exact absurd this.2.1 (by decide)
  have ne3 : q + 2 ≠ q4 := fun c => by
    have := h.h3; rw [c, h.h4] at this; simp only [Option.some.injEq, Obj.cells.injEq] at this; exact absurd this.2.1 (by decide)
  refine ⟨(Below.heap_setCell _ _ _ _ ne1).trans h.hF, (Below.heap_setCell _ _ _ _ (Ne.symm hne)).trans h.h2, (Below.heap_setCell _ _ _ _ ne3).trans h.h3, ?_⟩
  rw [← hv]; exact setCell_same h.h4 o v
theorem setPair_fr {W : World} {q : Nat} {cs : Array Value} (h : W.heap[q]? = some (.cells cs 34 (0, 0))) (o : Nat) (v : Value) : Fr (fun T => T == 34) false W (W.setCell ⟨q, o, none⟩ v) :=
  keeps_fr (setCell_keeps W q o v) _ _ fun k e => ⟨_, _, _, e ▸ h, rfl⟩
theorem pairTy_w (T : TypeId) (h : wTy T = true) : (T == 34) = false := by
  cases hT : (T == 34)
  · rfl
  · rw [beq_iff_eq] at hT; subst hT; cases h
theorem pairTy_r (T : TypeId) (h : rTy T = true) : (T == 34) = false := by
  cases hT : (T == 34)
  · rfl
  · rw [beq_iff_eq] at hT; subst hT; cases h
theorem below_set {w W : World} {q o : Nat} {v : Value} (h : Below w.heap.size w W) (hq : w.heap.size ≤ q) : Below w.heap.size w (W.setCell ⟨q, o, none⟩ v) := keeps_below (setCell_keeps W q o v) h h.size fun k e => e ▸ hq

def BeginPost (f : Fst) (w : World) (e : Ending) (w' : World) : Prop := ∃ B R V s x, e = .returned (.agg #[.pointer (some ⟨B.wb, 0, none⟩), .pointer (some ⟨R.wb, 0, none⟩)]) ∧ Pr w w' B R V s x ∧ V = { v0 f.conf with its := f.its } ∧ Far s x 300 ∧ f.conf.ok = true ∧
  (f.gr = false → f.puts = [] → f.sts = [] → f.ticks ≤ 0 → s = CS.init [(2, f.conf.bits)])
def f00 : Fst := ⟨⟨0, 0, 0, 0, 0⟩, false, none, 0, [], none, 0, [], none, 0, [], 0⟩

set_option maxRecDepth 100000 in
set_option maxHeartbeats 4000000 in
theorem begin_zero (w : World) : Calls Try.prog 9 #[.agg #[.int .i64 0, .int .i64 0, .int .i64 0, .int .i64 0, .int .i64 0, .bool false, .slice none 0 0, .slice none 0 0, .slice none 0 0, .int .i64 0]] w (BeginPost f00 w) := by
  have hok : Fst.c f00 = ⟨0, 0, 0, 0, 0⟩ := rfl
  have hcf : Fst.conf f00 = conf10 := by unfold Fst.conf; rfl
  have hcok : (Fst.conf f00).ok = true := by rw [hcf]; decide
  obtain ⟨hwb, hb1, hb12⟩ := tword_bits hcok
  have HCF := Lib.hid hcf; have HOK := Lib.hid hcok; have HTW := Lib.hid hwb
  clear hcf hcok hwb
  go_enter Try.func9, Try.ntmps9
  go_upto_region 2 with (fail)
  have hF : (((w.alloc (.cells (Fst.cells f00) 28)).alloc (.cells #[.pointer none, .pointer none] 34)).alloc (.cells #[.int .i64 0, .int .i64 0, .int .i64 0, .int .i64 0, .int .i64 0] 23)).heap[w.heap.size]? = some (.cells (Fst.cells f00) 28 (0, 0)) := heap_alloc_old (heap_alloc_old (heap_alloc_new w _))
  have h2 : (((w.alloc (.cells (Fst.cells f00) 28)).alloc (.cells #[.pointer none, .pointer none] 34)).alloc (.cells #[.int .i64 0, .int .i64 0, .int .i64 0, .int .i64 0, .int .i64 0] 23)).heap[w.heap.size + 1]? = some (.cells #[.pointer none, .pointer none] 34 (0, 0)) := heap_alloc_old (heap_alloc_at _ _ (by simp))
  have h3 : (((w.alloc (.cells (Fst.cells f00) 28)).alloc (.cells #[.pointer none, .pointer none] 34)).alloc (.cells #[.int .i64 0, .int .i64 0, .int .i64 0, .int .i64 0, .int .i64 0] 23)).heap[w.heap.size + 1 + 1]? = some (.cells #[.int .i64 0, .int .i64 0, .int .i64 0, .int .i64 0, .int .i64 0] 23 (0, 0)) := heap_alloc_at _ _ (by simp)
  have hB3 : Below w.heap.size w (((w.alloc (.cells (Fst.cells f00) 28)).alloc (.cells #[.pointer none, .pointer none] 34)).alloc (.cells #[.int .i64 0, .int .i64 0, .int .i64 0, .int .i64 0, .int .i64 0] 23)) := (((Below.refl _ w).alloc (Nat.le_refl _) _).alloc (by simp) _).alloc (by simp; omega) _
  change Code.wp _ _ _ _ (((w.alloc (.cells (Fst.cells f00) 28)).alloc (.cells #[.pointer none, .pointer none] 34)).alloc (.cells #[.int .i64 0, .int .i64 0, .int .i64 0, .int .i64 0, .int .i64 0] 23))
  generalize ((w.alloc (.cells (Fst.cells f00) 28)).alloc (.cells #[.pointer none, .pointer none] 34)).alloc (.cells #[.int .i64 0, .int .i64 0, .int .i64 0, .int .i64 0, .int .i64 0] 23) = W3 at *
  have d0 := hcell h3 0; have d1 := hcell h3 1; have d2 := hcell h3 2; have d3 := hcell h3 3; have d4 := hcell h3 4
  have HF := Lib.hid hF; have H2 := Lib.hid h2; have H3 := Lib.hid h3; have HB3 := Lib.hid hB3
  clear hF h2 h3 hB3
  go_upto_region 4 with (first
    | (go_at_call 42; refine (rother_any ⟨0, 0, 0, 0, 0⟩ _).mono ?_; rintro e w4 ⟨rfl, b4⟩)
    | (go_at_call 41; refine (rmay_any ⟨0, 0, 0, 0, 0⟩ _).mono ?_; rw [show (⟨0, 0, 0, 0, 0⟩ : Conf).ok = false from rfl]; rintro e W4 ⟨rfl, b5⟩; clear d0 d1 d2 d3 d4; have hb4 : Below W3.heap.size W3 W4 := b4.trans (b5.mono b4.size); have h34 := (hb4.block _ (Array.getElem?_eq_some_iff.1 H3.out).1).trans H3.out; have d0 := hcell h34 0; have d1 := hcell h34 1; have d2 := hcell h34 2; have d3 := hcell h34 3; have d4 := hcell h34 4; have df := hfrz h34; have H34 := Lib.hid h34; have HB4 := Lib.hid hb4; clear h34 hb4))
  have hF0 := (HB4.out.block _ (Array.getElem?_eq_some_iff.1 HF.out).1).trans HF.out
  have h20 := (HB4.out.block _ (Array.getElem?_eq_some_iff.1 H2.out).1).trans H2.out
  have h3 : (((((W4.setCell ⟨w.heap.size + 1 + 1, 0, none⟩ (.int .i64 2)).setCell ⟨w.heap.size + 1 + 1, 1, none⟩ (.int .i64 8)).setCell ⟨w.heap.size + 1 + 1, 2, none⟩ (.int .i64 3)).setCell ⟨w.heap.size + 1 + 1, 3, none⟩ (.int .i64 1)).setCell ⟨w.heap.size + 1 + 1, 4, none⟩ (.int .i64 16)).heap[w.heap.size + 2]? = some (.cells #[.int .i64 (Fst.conf f00).bits, .int .i64 (Fst.conf f00).budget, .int .i64 (Fst.conf f00).tries, .int .i64 (Fst.conf f00).quantum, .int .i64 (Fst.conf f00).way] 23 (0, 0)) := by
    have := setCell_same (setCell_same (setCell_same (setCell_same (setCell_same H34.out 0 (.int .i64 2)) 1 (.int .i64 8)) 2 (.int .i64 3)) 3 (.int .i64 1)) 4 (.int .i64 16)
    rw [show (Fst.conf f00) = conf10 from HCF.out]
    exact this
  have hk5 : Keeps (· = w.heap.size + 1 + 1) W4 (((((W4.setCell ⟨w.heap.size + 1 + 1, 0, none⟩ (.int .i64 2)).setCell ⟨w.heap.size + 1 + 1, 1, none⟩ (.int .i64 8)).setCell ⟨w.heap.size + 1 + 1, 2, none⟩ (.int .i64 3)).setCell ⟨w.heap.size + 1 + 1, 3, none⟩ (.int .i64 1)).setCell ⟨w.heap.size + 1 + 1, 4, none⟩ (.int .i64 16)) := ((((setCell_keeps _ _ _ _).again (setCell_keeps _ _ _ _)).again (setCell_keeps _ _ _ _)).again (setCell_keeps _ _ _ _)).again (setCell_keeps _ _ _ _)
  clear d0 d1 d2 d3 d4 df
  change Code.wp _ _ _ _ (((((W4.setCell ⟨w.heap.size + 1 + 1, 0, none⟩ (.int .i64 2)).setCell ⟨w.heap.size + 1 + 1, 1, none⟩ (.int .i64 8)).setCell ⟨w.heap.size + 1 + 1, 2, none⟩ (.int .i64 3)).setCell ⟨w.heap.size + 1 + 1, 3, none⟩ (.int .i64 1)).setCell ⟨w.heap.size + 1 + 1, 4, none⟩ (.int .i64 16))
  generalize (((((W4.setCell ⟨w.heap.size + 1 + 1, 0, none⟩ (.int .i64 2)).setCell ⟨w.heap.size + 1 + 1, 1, none⟩ (.int .i64 8)).setCell ⟨w.heap.size + 1 + 1, 2, none⟩ (.int .i64 3)).setCell ⟨w.heap.size + 1 + 1, 3, none⟩ (.int .i64 1)).setCell ⟨w.heap.size + 1 + 1, 4, none⟩ (.int .i64 16)) = W5 at *
  have hF := (hk5.block _ (Array.getElem?_eq_some_iff.1 hF0).1 (by omega)).trans hF0
  have h2 := (hk5.block _ (Array.getElem?_eq_some_iff.1 h20).1 (by omega)).trans h20
  have hB5 : Below w.heap.size w W5 := keeps_below hk5 (HB3.out.trans (HB4.out.mono HB3.out.size)) (Nat.le_trans HB3.out.size HB4.out.size) fun k e => by omega
  clear b4 b5 hk5 hF0 h20
  have HBX0 : Hid (BxF f00 (Fst.conf f00) w.heap.size W5.heap.size (.pointer none) (.pointer none) (W5.alloc (.cells #[.pointer none, .pointer none] 34))) := ⟨heap_alloc_old hF, heap_alloc_old h2, heap_alloc_old h3, heap_alloc_new W5 _⟩
  have HB6 : Hid (Below w.heap.size w (W5.alloc (.cells #[.pointer none, .pointer none] 34))) := hB5.alloc hB5.size _
  have hq4 : w.heap.size + 1 < W5.heap.size := (Array.getElem?_eq_some_iff.1 h2).1
  have HSZ := Lib.hid hB5.size
  clear hF h2 h3 hB5 HF H2 H3 HB3
  go_upto_region 5 with (fail)
  generalize W5.alloc (.cells #[.pointer none, .pointer none] 34) = W6 at *
  obtain ⟨q4, hq4e⟩ : ∃ q4, q4 = W5.heap.size := ⟨_, rfl⟩
  rw [← hq4e] at HBX0 hq4 HSZ
  simp only [← hq4e]
  clear hq4e
  have hb := HBX0.out
  have d0 := hcell hb.h3 0; have d1 := hcell hb.h3 1; have d2 := hcell hb.h3 2; have d3 := hcell hb.h3 3; have d4 := hcell hb.h3 4
  clear hb
  generalize hfc : (Fst.conf f00) = fc at *
  go_upto_region 6 with (first
    | (go_at_call 42; refine (rother_any fc _).mono ?_; rintro e w7 ⟨rfl, b7⟩; have HB7 := Lib.hid b7; clear b7 d0 d1 d2 d3 d4)
    | (go_at_call 43; refine (rnew10_any fc HOK.out w7).mono ?_; rintro e w8 ⟨rb, cr, rib, rnb, rfl, hR, bR⟩; have hbx8 := (HBX0.out.below HB7.out).below bR; have e0 := hcell hbx8.h4 1; have ef := hfrz hbx8.h4 1; have HR8 := Lib.hid (rd_of hR (HB6.out.trans (HB7.out.mono HB6.out.size)) bR); have HBX8 := Lib.hid hbx8; have HB8 : Hid (Below w.heap.size w w8) := (HB6.out.trans (HB7.out.mono HB6.out.size)).trans (bR.mono (Nat.le_trans HB6.out.size HB7.out.size)); clear hbx8 hR bR))
  have hf9 := setPair_fr HBX8.out.h4 1 (.pointer (some ⟨rb, 0, none⟩))
  have hB9 := below_set (o := 1) (v := .pointer (some ⟨rb, 0, none⟩)) HB8.out (HSZ.out)
  have hbx9 := HBX8.out.set (by omega) 1 (.pointer (some ⟨rb, 0, none⟩)) (.pointer none) (.pointer (some ⟨rb, 0, none⟩)) rfl
  have HR9 := Lib.hid (HR8.out.fr hf9 pairTy_r hB9)
  have HBX9 := Lib.hid hbx9; have HB9 := Lib.hid hB9
  clear hf9 hB9 hbx9 e0 ef HR8 HBX8 HB8
  generalize w8.setCell ⟨q4, 1, none⟩ (.pointer (some ⟨rb, 0, none⟩)) = W9 at *
  have hb := HBX9.out
  have d0 := hcell hb.h3 0; have d1 := hcell hb.h3 1; have d2 := hcell hb.h3 2; have d3 := hcell hb.h3 3; have d4 := hcell hb.h3 4
  clear hb
  go_upto_region 7 with (go_at_call 40; refine (wnew_ok fc HOK.out W9).mono ?_; rintro e w10 ⟨wb, cb, ib, nb, rfl, g1, g2, g3, g4, g5, g6, g7⟩; have hbx10 := HBX9.out.below g3.below; have e0 := hcell hbx10.h4 0; have ef := hfrz hbx10.h4 0; have HW10 := Lib.hid (ws_of HB9.out g1 g2 g3 g4 g5 g6 g7); have HR10 := Lib.hid (HR9.out.keep g3.below); have HBX10 := Lib.hid hbx10; clear hbx10 g1 g2 g3 g4 g5 g6 g7 d0 d1 d2 d3 d4)
  have hf11 := setPair_fr HBX10.out.h4 0 (.pointer (some ⟨wb, 0, none⟩))
  have hB11 := below_set (o := 0) (v := .pointer (some ⟨wb, 0, none⟩)) HW10.out.below (HSZ.out)
  have hbx11 := HBX10.out.set (by omega) 0 (.pointer (some ⟨wb, 0, none⟩)) (.pointer (some ⟨wb, 0, none⟩)) (.pointer (some ⟨rb, 0, none⟩)) rfl
  have htw : tword fc.bits 0 = fc.bits := HTW.out
  have hws := HW10.out.fr hf11 pairTy_w hB11
  rw [htw] at hws
  have hpr : Pr w (w10.setCell ⟨q4, 0, none⟩ (.pointer (some ⟨wb, 0, none⟩))) ⟨wb, cb, ib, nb⟩ ⟨rb, cr, rib, rnb⟩ (v0 fc) (CS.init [(2, fc.bits)]) ⟨rfold [(2, fc.bits)], 0, 0, 0, 0, 0⟩ := ⟨hws, HR10.out.fr hf11 pairTy_r hB11, init_one _ (by omega)⟩
  have hfar := init_far1 fc.bits
  have HPR := Lib.hid hpr; have HFAR := Lib.hid hfar; have HBX := Lib.hid hbx11
  clear hf11 hB11 hbx11 htw hws hpr hfar e0 ef HW10 HR10 HBX10 HBX9 HB9 HR9 HB7 HBX0 HB6
  generalize w10.setCell ⟨q4, 0, none⟩ (.pointer (some ⟨wb, 0, none⟩)) = W11 at *
  generalize hs1 : CS.init [(2, fc.bits)] = s1 at *
  generalize (⟨rfold [(2, fc.bits)], 0, 0, 0, 0, 0⟩ : RS) = x1 at *
  obtain ⟨B, hBe⟩ : ∃ B : WB, B = ⟨wb, cb, ib, nb⟩ := ⟨_, rfl⟩
  obtain ⟨R, hRe⟩ : ∃ R : WB, R = ⟨rb, cr, rib, rnb⟩ := ⟨_, rfl⟩
  rw [← hBe, ← hRe] at HPR
  have ewb : wb = B.wb := by rw [hBe]
  have erb : rb = R.wb := by rw [hRe]
  subst ewb erb
  clear hBe hRe
  have hb := HBX.out
  have c40 := hcell hb.h4 0
  have cF5 : W11.cell? ⟨w.heap.size, 5, none⟩ = some (.bool false) := hcell hb.hF 5
  have cF2 := hcell hb.hF 6
  have c30 := hcell hb.h3 0
  have c41 := hcell hb.h4 1
  clear hb
  have HS1 := Lib.hid hs1; have HFC := Lib.hid hfc
  clear hs1 hfc
  have cF5 : W11.cell? ⟨w.heap.size, 5, none⟩ = some (.bool false) := hcell HBX.out.hF 5
  have cF6 : W11.cell? ⟨w.heap.size, 6, none⟩ = some (.slice none 0 0) := hcell HBX.out.hF 6
  have cF7 : W11.cell? ⟨w.heap.size, 7, none⟩ = some (.slice none 0 0) := hcell HBX.out.hF 7
  have cF8 : W11.cell? ⟨w.heap.size, 8, none⟩ = some (.slice none 0 0) := hcell HBX.out.hF 8
  have cF9 : W11.cell? ⟨w.heap.size, 9, none⟩ = some (.int .i64 0) := hcell HBX.out.hF 9
  have e20 := hcell HBX.out.h2 0
  have e21 := hcell HBX.out.h2 1
  have ef := hfrz HBX.out.h2
  clear cF2
  go_wp2_with fail
  refine wp_loop_rounds 1 ?_
  rw [rounds_succ]
  go_wp2_with fail
  refine wp_loop_rounds 1 ?_
  rw [rounds_succ]
  go_wp2_with fail
  refine wp_loop_rounds 1 ?_
  rw [rounds_succ]
  go_wp2_with fail
  refine wp_loop_rounds 1 ?_
  rw [rounds_succ]
  go_wp2
  have HBX6 := HBX
  have HPR6 := HPR
  have h2s := setCell_same (setCell_same HBX6.out.h2 0 (.pointer (some ⟨B.wb, 0, none⟩))) 1 (.pointer (some ⟨R.wb, 0, none⟩))
  have r0 := hcell h2s 0
  have r1 := hcell h2s 1
  refine bodyPost_ret (v := .agg #[.pointer (some ⟨B.wb, 0, none⟩), .pointer (some ⟨R.wb, 0, none⟩)]) (by simp [results, Try.results9, go_sem, r0, r1]; done) rfl ?_
  have hf2 := (setPair_fr HBX6.out.h2 0 (.pointer (some ⟨B.wb, 0, none⟩))).trans (setPair_fr (setCell_same HBX6.out.h2 0 (.pointer (some ⟨B.wb, 0, none⟩))) 1 (.pointer (some ⟨R.wb, 0, none⟩)))
  have hB2 := below_set (o := 1) (v := .pointer (some ⟨R.wb, 0, none⟩)) (below_set (o := 0) (v := .pointer (some ⟨B.wb, 0, none⟩)) HPR6.out.ws.below (Nat.le_succ _)) (Nat.le_succ _)
  exact ⟨B, R, _, s1, x1, rfl, ⟨HPR6.out.ws.fr hf2 pairTy_w hB2, HPR6.out.rd.fr hf2 pairTy_r hB2, HPR6.out.al⟩, by rw [show Fst.conf f00 = fc from HFC.out]; rfl, ⟨by have := HFAR.out.1; omega, by have := HFAR.out.2.1; omega, by have := HFAR.out.2.2; omega⟩, by rw [show Fst.conf f00 = fc from HFC.out]; exact HOK.out, fun _ _ _ _ => by
    rw [show Fst.conf f00 = fc from HFC.out]; exact HS1.out.symm⟩
end Go.Proofs.Ytdabcnjjbfmkaaa
