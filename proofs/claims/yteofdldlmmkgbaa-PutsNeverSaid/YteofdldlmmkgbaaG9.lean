/-
  Texts of this prover, merged: Frame, RefWorld, Segs.
-/
import Derived.Test.YteofdldlmmkgbaaG6
import Derived.Test.YteofdldlmmkgbaaG7
import Derived.Test.YteofdldlmmkgbaaG8
import Derived.Test.YteofdldlmmkgbaaG5
import Derived.Test.YteofdldlmmkgbaaG2
/-
  A world and the document's world, each by itself, with all that they have; of which types the blocks are that an operation turns.
-/
namespace Go.Proofs.Yteofdldlmmkgbaa
open Go.RowKit Go.Maps
set_option linter.unusedVariables false

/-- Types of the blocks that a world is made of; that the document's is made of. -/
def wTy (T : TypeId) : Bool := T == 167 || T == 212 || T == 42 || T == 157 || T == 158 || T == 160 || T == 197 || T == 75
def rTy (T : TypeId) : Bool := T == 137 || T == 199 || T == 127 || T == 131 || T == 61 || T == 135 || T == 143
def wrTy (T : TypeId) : Bool := wTy T || rTy T
/-- Of the old blocks only such of some types have turned, and maps only where it is said. -/
structure Fr (K : TypeId → Bool) (mp : Bool) (w w' : World) : Prop where
  size : w.heap.size ≤ w'.heap.size
  cells : ∀ (k : Nat) (cs : Array Value) (T : TypeId) (fr : Nat × Nat), w.heap[k]? = some (.cells cs T fr) → K T = false → w'.heap[k]? = some (.cells cs T fr)
  map : mp = false → ∀ (k : Nat) (es : Array MapEntry) (cl : Nat), w.heap[k]? = some (.map es cl) → w'.heap[k]? = some (.map es cl)
theorem Fr.refl (K : TypeId → Bool) (mp : Bool) (w : World) : Fr K mp w w := ⟨Nat.le_refl _, fun _ _ _ _ h _ => h, fun _ _ _ _ h => h⟩
theorem Fr.trans {K : TypeId → Bool} {mp : Bool} {a b c : World} (h : Fr K mp a b) (k : Fr K mp b c) : Fr K mp a c :=
  ⟨Nat.le_trans h.size k.size, fun i cs T fr hi hT => k.cells i cs T fr (h.cells i cs T fr hi hT) hT, fun hm i es cl hi => k.map hm i es cl (h.map hm i es cl hi)⟩
theorem Fr.mono {K K' : TypeId → Bool} {mp mp' : Bool} {a b : World} (h : Fr K mp a b) (hK : ∀ T, K' T = false → K T = false) (hm : mp' = false → mp = false) : Fr K' mp' a b :=
  ⟨h.size, fun i cs T fr hi hT => h.cells i cs T fr hi (hK T hT), fun h2 => h.map (hm h2)⟩
theorem below_fr {w w' : World} (h : Below w.heap.size w w') (K : TypeId → Bool) (mp : Bool) : Fr K mp w w' :=
  ⟨h.size, fun k cs T fr hk _ => (h.block k (Array.getElem?_eq_some_iff.1 hk).1).trans hk, fun _ k es cl hk => (h.block k (Array.getElem?_eq_some_iff.1 hk).1).trans hk⟩
theorem rest_fr {w w' : World} (h : Rest w w') (hs : w.heap.size ≤ w'.heap.size) : Fr wTy true w w' :=
  ⟨hs, fun k cs T fr hk hT => h k cs T fr hk (by unfold wTy at hT; simp only [Bool.or_eq_false_iff] at hT; exact hT.1.1.1.1.1.1.1) (by unfold wTy at hT; simp only [Bool.or_eq_false_iff] at hT; exact hT.1.1.1.1.1.1.2), fun h => by cases h⟩
theorem keeps_fr {S : Nat → Prop} {w w' : World} (h : Keeps S w w') (K : TypeId → Bool) (mp : Bool) (hs : ∀ k, S k → ∃ cs T fr, w.heap[k]? = some (.cells cs T fr) ∧ K T = true) : Fr K mp w w' := by
  refine ⟨h.size, fun k cs T fr hk hT => (h.block k (Array.getElem?_eq_some_iff.1 hk).1 fun c => ?_).trans hk, fun _ k es cl hk => (h.block k (Array.getElem?_eq_some_iff.1 hk).1 fun c => ?_).trans hk⟩
  · obtain ⟨cs2, T2, fr2, h2, h3⟩ := hs k c
    have := h2.symm.trans hk
    simp only [Option.some.injEq, Obj.cells.injEq] at this
    rw [this.2.1, hT] at h3; cases h3
  · obtain ⟨cs2, T2, fr2, h2, h3⟩ := hs k c
    have := h2.symm.trans hk
    cases this
theorem wr_of_w {w w' : World} (h : Fr wTy true w w') : Fr wrTy true w w' := h.mono (fun T hT => by unfold wrTy at hT; simp only [Bool.or_eq_false_iff] at hT; exact hT.1) (fun h => by cases h)
theorem wr_of_r {w w' : World} (h : Fr rTy false w w') : Fr wrTy true w w' := h.mono (fun T hT => by unfold wrTy at hT; simp only [Bool.or_eq_false_iff] at hT; exact hT.2) (fun h => by cases h)

theorem own_fr {K : TypeId → Bool} {mp : Bool} {w w' : World} {base e size n : Nat} {v : Value} {xs : List Value} (h : w.ownsRow base e size v n xs) (hf : Fr K mp w w') (he : K e = false) : w'.ownsRow base e size v n xs := by
  obtain ⟨h1, h2 | ⟨g, cap, cur, hv, hb1, hg, r⟩⟩ := h
  · exact ⟨h1, .inl h2⟩
  · exact ⟨h1, .inr ⟨g, cap, cur, hv, hb1, hf.cells _ _ _ _ hg he, r⟩⟩
theorem Arena.ty {w : World} {base b : Nat} {l : List Itm} {S : Nat → Prop} (h : Arena w base b l S) : ∀ k, S k → ∃ cs T, w.heap[k]? = some (.cells cs T (0, 0)) ∧ (T = 157 ∨ T = 158 ∨ T = 160) := by
  obtain ⟨ao, cap, ps, h, rfl⟩ := h
  rintro k (rfl | ⟨a, rfl, rfl⟩ | hk)
  · exact ⟨_, _, h.hdr, .inl rfl⟩
  · rcases h.own.2 with ⟨hn, _⟩ | ⟨g, c, cur, hv, hg, hh, r⟩
    · cases hn
    · simp only [Value.slice.injEq, Option.some.injEq] at hv
      rw [hv.1]
      exact ⟨_, _, hh, .inr (.inl rfl)⟩
  · obtain ⟨j, hj, rfl⟩ := List.mem_iff_getElem.1 hk
    obtain ⟨cs, h1, _⟩ := h.blk j hj
    exact ⟨_, _, h1, .inr (.inr rfl)⟩
theorem RArena.ty {w : World} {base b : Nat} {l : List Itm} {S : Nat → Prop} (h : RArena w base b l S) : ∀ k, S k → ∃ cs T, w.heap[k]? = some (.cells cs T (0, 0)) ∧ (T = 131 ∨ T = 61) := by
  obtain ⟨ao, cap, h, rfl⟩ := h
  rintro k (rfl | ⟨a, rfl, rfl⟩)
  · exact ⟨_, _, h.hdr, .inl rfl⟩
  · rcases h.own.2 with ⟨hn, _⟩ | ⟨g, c, cur, hv, hg, hh, r⟩
    · cases hn
    · simp only [Value.slice.injEq, Option.some.injEq] at hv
      rw [hv.1]
      exact ⟨_, _, hh, .inr rfl⟩
theorem Arena.fr {K : TypeId → Bool} {mp : Bool} {w w' : World} {base b : Nat} {l : List Itm} {S : Nat → Prop} (h : Arena w base b l S) (hf : Fr K mp w w') (h1 : K 157 = false) (h2 : K 158 = false) (h3 : K 160 = false) : Arena w' base b l S :=
  h.keep fun k hk => by
    obtain ⟨cs, T, he, hT⟩ := h.ty k hk
    rw [he]
    refine hf.cells _ _ _ _ he ?_
    rcases hT with rfl | rfl | rfl <;> assumption
theorem RArena.fr {K : TypeId → Bool} {mp : Bool} {w w' : World} {base b : Nat} {l : List Itm} {S : Nat → Prop} (h : RArena w base b l S) (hf : Fr K mp w w') (h1 : K 131 = false) (h2 : K 61 = false) : RArena w' base b l S :=
  h.keep fun k hk => by
    obtain ⟨cs, T, he, hT⟩ := h.ty k hk
    rw [he]
    refine hf.cells _ _ _ _ he ?_
    rcases hT with rfl | rfl <;> assumption
theorem Own.fr {K : TypeId → Bool} {w0 w w' : World} {b : Nat} {s : CS} (h : Own w0 w b s) (hf : Fr K false w w') (hB : Below w0.heap.size w0 w') (h1 : K 167 = false) (h2 : K 212 = false) : Own w0 w' b s := by
  obtain ⟨⟨S, hS⟩, _⟩ := h
  refine ⟨⟨S, hS.keep fun k hk => ?_⟩, hB⟩
  obtain ⟨mo, f, hA, rfl⟩ := hS
  rcases hk with rfl | hm | ⟨a, ha⟩
  · rw [hA.hdr]; exact hf.cells _ _ _ _ hA.hdr h1
  · obtain ⟨⟨D, ⟨es, cl, hb, _⟩, _⟩, _⟩ := hA.map k hm
    rw [hb]; exact hf.map rfl _ _ _ hb
  · have := (hA.ptr a k ha).1
    rw [this]; exact hf.cells _ _ _ _ this h2

/-- A note. -/
structure Nte where
  step : Int
  thread : Int
  kind : Int
  ref : Int
  bits : Int
  bucket : Int
  slot : Int
  value : Int
def nteC (q : IntKind) (n : Nte) : List Value := [.int .i64 n.step, .int .i64 n.thread, .int q n.kind, .int .i64 n.ref, .int .i64 n.bits, .int .i64 n.bucket, .int .i64 n.slot, .int .i64 n.value]
/-- A list of notes. -/
def NL (w : World) (base nb TL TN : Nat) (q : IntKind) (l : List Nte) : Prop := ∃ v, w.heap[nb]? = some (.cells #[v] TL (0, 0)) ∧ base ≤ nb ∧ w.ownsRow base TN 8 v l.length (l.flatMap (nteC q))
theorem NL.fr {K : TypeId → Bool} {mp : Bool} {w w' : World} {base nb TL TN : Nat} {q : IntKind} {l : List Nte} (h : NL w base nb TL TN q l) (hf : Fr K mp w w') (h1 : K TL = false) (h2 : K TN = false) : NL w' base nb TL TN q l := by
  obtain ⟨v, h3, h4, h5⟩ := h
  exact ⟨v, hf.cells _ _ _ _ h3 h1, h4, own_fr h5 hf h2⟩
theorem NL.nil {w : World} {base nb TL : Nat} (TN : Nat) (q : IntKind) (h : w.heap[nb]? = some (.cells #[.slice none 0 0] TL (0, 0))) (hb : base ≤ nb) : NL w base nb TL TN q [] := ⟨_, h, hb, World.ownsRow_nil _ _ _ _⟩

/-- The blocks of a world. -/
structure WB where
  wb : Nat
  cb : Nat
  ib : Nat
  nb : Nat
/-- What a world has besides its cells. -/
structure WV where
  c : Conf
  its : List Itm
  nts : List Nte
  tk : List Int
  hd : Int
def tkV (l : List Int) : List Value := l.map fun t => .int .u64 t
def WB.val (B : WB) (V : WV) : Array Value := (worldV B.cb B.ib B.nb V.c (tkV V.tk) V.hd).toArray

/-- The program's world. -/
structure WS (w0 w : World) (B : WB) (V : WV) (s : CS) : Prop where
  own : Own w0 w B.cb s
  blk : w.heap[B.wb]? = some (.cells (B.val V) 42 (0, 0))
  lo : w0.heap.size ≤ B.wb
  ar : ∃ S, Arena w w0.heap.size B.ib V.its S
  nt : NL w w0.heap.size B.nb 197 75 .u8 V.nts
  tkl : V.tk.length = 64
/-- The document's world. -/
structure RD (w0 w : World) (B : WB) (V : WV) (x : RS) : Prop where
  below : Below w0.heap.size w0 w
  ref : ∃ lv, RCells w w0.heap.size B.cb lv x
  blk : w.heap[B.wb]? = some (.cells (B.val V) 137 (0, 0))
  lo : w0.heap.size ≤ B.wb
  ar : ∃ S, RArena w w0.heap.size B.ib V.its S
  nt : NL w w0.heap.size B.nb 135 143 .i64 V.nts
  tkl : V.tk.length = 64

section
variable {w0 w w' : World} {B : WB} {V : WV} {s s' : CS} {x x' : RS}
theorem WS.below (h : WS w0 w B V s) : Below w0.heap.size w0 w := h.own.below
theorem WS.wld (h : WS w0 w B V s) : Wld w0 w B.wb B.cb V.c s := ⟨h.own, B.ib, B.nb, tkV V.tk, V.hd, h.blk⟩
theorem WS.fr {K : TypeId → Bool} (h : WS w0 w B V s) (hf : Fr K false w w') (hK : ∀ T, wTy T = true → K T = false) (hB : Below w0.heap.size w0 w') : WS w0 w' B V s := by
  obtain ⟨S, ha⟩ := h.ar
  exact ⟨h.own.fr hf hB (hK _ rfl) (hK _ rfl), hf.cells _ _ _ _ h.blk (hK _ rfl), h.lo, ⟨S, ha.fr hf (hK _ rfl) (hK _ rfl) (hK _ rfl)⟩, h.nt.fr hf (hK _ rfl) (hK _ rfl), h.tkl⟩
theorem WS.keep (h : WS w0 w B V s) (hb : Below w.heap.size w w') : WS w0 w' B V s :=
  h.fr (below_fr hb (fun _ => false) false) (fun _ _ => rfl) (h.below.trans (hb.mono h.below.size))
theorem w_not_r (T : TypeId) (h : wTy T = true) : rTy T = false := by
  unfold wTy at h
  simp only [Bool.or_eq_true, beq_iff_eq] at h
  rcases h with ((((((rfl | rfl) | rfl) | rfl) | rfl) | rfl) | rfl) | rfl <;> rfl
theorem r_not_w (T : TypeId) (h : rTy T = true) : wTy T = false := by
  cases hw : wTy T
  · rfl
  · rw [w_not_r T hw] at h; cases h
theorem WS.byr (h : WS w0 w B V s) (hf : Fr rTy false w w') (hB : Below w0.heap.size w0 w') : WS w0 w' B V s := h.fr hf w_not_r hB
/-- Behind an access. -/
theorem WS.acc (h : WS w0 w B V s) (ho : Own w0 w' B.cb s') (hr : Rest w w') (hs : w.heap.size ≤ w'.heap.size) : WS w0 w' B V s' ∧ Fr wTy true w w' := by
  obtain ⟨S, ha⟩ := h.ar
  have hf : Fr (fun T => T == 167 || T == 212) true w w' := ⟨hs, fun k cs T fr hk hT => by simp only [Bool.or_eq_false_iff] at hT; exact hr k cs T fr hk hT.1 hT.2, fun h => by cases h⟩
  exact ⟨⟨ho, hf.cells _ _ _ _ h.blk rfl, h.lo, ⟨S, ha.fr hf rfl rfl rfl⟩, h.nt.fr hf rfl rfl, h.tkl⟩, rest_fr hr hs⟩
theorem RD.fr {K : TypeId → Bool} {mp : Bool} (h : RD w0 w B V x) (hf : Fr K mp w w') (hK : ∀ T, rTy T = true → K T = false) (hB : Below w0.heap.size w0 w') : RD w0 w' B V x := by
  obtain ⟨S, ha⟩ := h.ar
  obtain ⟨lv, hr⟩ := h.ref
  exact ⟨hB, ⟨lv, hf.cells _ _ _ _ hr.hdr (hK _ rfl), hr.lo, own_fr hr.row hf (hK _ rfl), hr.wf⟩, hf.cells _ _ _ _ h.blk (hK _ rfl), h.lo, ⟨S, ha.fr hf (hK _ rfl) (hK _ rfl)⟩, h.nt.fr hf (hK _ rfl) (hK _ rfl), h.tkl⟩
theorem RD.keep (h : RD w0 w B V x) (hb : Below w.heap.size w w') : RD w0 w' B V x :=
  h.fr (below_fr hb (fun _ => false) false) (fun _ _ => rfl) (h.below.trans (hb.mono h.below.size))
theorem RD.byw (h : RD w0 w B V x) (hf : Fr wTy true w w') (hB : Below w0.heap.size w0 w') : RD w0 w' B V x := h.fr hf r_not_w hB
theorem RD.acc (h : RD w0 w B V x) (hr : ∃ lv, RCells w' w0.heap.size B.cb lv x') (hk : Keeps (· = B.cb) w w') : RD w0 w' B V x' ∧ Fr rTy false w w' := by
  obtain ⟨S, ha⟩ := h.ar
  obtain ⟨lv, hr0⟩ := h.ref
  have hf : Fr (fun T => T == 199) false w w' := keeps_fr hk _ _ fun k e => ⟨_, _, _, e ▸ hr0.hdr, rfl⟩
  refine ⟨⟨keeps_below hk h.below h.below.size fun k e => e ▸ hr0.lo, hr, hf.cells _ _ _ _ h.blk rfl, h.lo, ⟨S, ha.fr hf rfl rfl⟩, h.nt.fr hf rfl rfl, h.tkl⟩, hf.mono (fun T hT => ?_) id⟩
  unfold rTy at hT; simp only [Bool.or_eq_false_iff] at hT; exact hT.1.1.1.1.1.2

/-- A store into the world's own block. -/
theorem WS.set (h : WS w0 w B V s) (o : Nat) (v : Value) (V' : WV) (hv : (B.val V).setIfInBounds o v = B.val V') (hi : V'.its = V.its) (hn : V'.nts = V.nts) (ht : V'.tk.length = 64) :
    WS w0 (w.setCell ⟨B.wb, o, none⟩ v) B V' s ∧ Fr wTy true w (w.setCell ⟨B.wb, o, none⟩ v) := by
  obtain ⟨S, ha⟩ := h.ar
  have hk := setCell_keeps w B.wb o v
  have hB : Below w0.heap.size w0 (w.setCell ⟨B.wb, o, none⟩ v) := keeps_below hk h.below h.below.size fun k e => e ▸ h.lo
  have hf : Fr (fun T => T == 42) false w (w.setCell ⟨B.wb, o, none⟩ v) := keeps_fr hk _ _ fun k e => ⟨_, _, _, e ▸ h.blk, rfl⟩
  refine ⟨⟨h.own.fr hf hB rfl rfl, by rw [← hv]; exact setCell_same h.blk o v, h.lo, ⟨S, hi ▸ ha.fr hf rfl rfl rfl⟩, hn ▸ h.nt.fr hf rfl rfl, ht⟩, hf.mono (fun T hT => ?_) (fun h => by cases h)⟩
  unfold wTy at hT; simp only [Bool.or_eq_false_iff] at hT; exact hT.1.1.1.1.1.2
theorem RD.set (h : RD w0 w B V x) (o : Nat) (v : Value) (V' : WV) (hv : (B.val V).setIfInBounds o v = B.val V') (hi : V'.its = V.its) (hn : V'.nts = V.nts) (ht : V'.tk.length = 64) :
    RD w0 (w.setCell ⟨B.wb, o, none⟩ v) B V' x ∧ Fr rTy false w (w.setCell ⟨B.wb, o, none⟩ v) := by
  obtain ⟨S, ha⟩ := h.ar
  obtain ⟨lv, hr⟩ := h.ref
  have hk := setCell_keeps w B.wb o v
  have hB : Below w0.heap.size w0 (w.setCell ⟨B.wb, o, none⟩ v) := keeps_below hk h.below h.below.size fun k e => e ▸ h.lo
  have hf : Fr (fun T => T == 137) false w (w.setCell ⟨B.wb, o, none⟩ v) := keeps_fr hk _ _ fun k e => ⟨_, _, _, e ▸ h.blk, rfl⟩
  refine ⟨⟨hB, ⟨lv, hf.cells _ _ _ _ hr.hdr rfl, hr.lo, own_fr hr.row hf rfl, hr.wf⟩, by rw [← hv]; exact setCell_same h.blk o v, h.lo, ⟨S, hi ▸ ha.fr hf rfl rfl⟩, hn ▸ h.nt.fr hf rfl rfl, ht⟩, hf.mono (fun T hT => ?_) id⟩
  unfold rTy at hT; simp only [Bool.or_eq_false_iff] at hT; exact hT.1.1.1.1.1.1
theorem val_hd (B : WB) (V : WV) (ht : V.tk.length = 64) (h : Int) : (B.val V).setIfInBounds 72 (.int .i64 h) = B.val { V with hd := h } := by
  unfold WB.val worldV
  have e : ([Value.pointer (some ⟨B.cb, 0, none⟩), .pointer (some ⟨B.ib, 0, none⟩), .pointer (some ⟨B.nb, 0, none⟩)] ++ V.c.cells ++ tkV V.tk).length = 72 := by simp [Conf.cells, tkV, ht]
  rw [List.setIfInBounds_toArray, List.set_append_right _ _ (by omega), e]
  rfl
theorem val_tk (B : WB) (V : WV) (ht : V.tk.length = 64) (t : Nat) (htt : t < 64) (v : Int) : (B.val V).setIfInBounds (8 + t) (.int .u64 v) = B.val { V with tk := V.tk.set t v } := by
  unfold WB.val worldV
  have e : ([Value.pointer (some ⟨B.cb, 0, none⟩), .pointer (some ⟨B.ib, 0, none⟩), .pointer (some ⟨B.nb, 0, none⟩)] ++ V.c.cells).length = 8 := by simp [Conf.cells]
  rw [List.setIfInBounds_toArray, List.append_assoc, List.set_append_right _ _ (by omega), e, show 8 + t - 8 = t by omega, List.set_append_left _ _ (by simp [tkV, ht, htt])]
  simp [tkV, List.map_set]
theorem WS.cell (h : WS w0 w B V s) (o : Nat) : w.cell? ⟨B.wb, o, none⟩ = (B.val V)[o]? := by unfold World.cell?; simp only; rw [h.blk]; rfl
theorem RD.cell (h : RD w0 w B V x) (o : Nat) : w.cell? ⟨B.wb, o, none⟩ = (B.val V)[o]? := by unfold World.cell?; simp only; rw [h.blk]; rfl
theorem val_at (B : WB) (V : WV) (ht : V.tk.length = 64) : (B.val V)[0]? = some (.pointer (some ⟨B.cb, 0, none⟩)) ∧ (B.val V)[1]? = some (.pointer (some ⟨B.ib, 0, none⟩)) ∧ (B.val V)[2]? = some (.pointer (some ⟨B.nb, 0, none⟩)) ∧
    (B.val V)[3]? = some (.int .i64 V.c.bits) ∧ (B.val V)[4]? = some (.int .i64 V.c.budget) ∧ (B.val V)[72]? = some (.int .i64 V.hd) := by
  refine ⟨rfl, rfl, rfl, rfl, rfl, ?_⟩
  unfold WB.val worldV
  have e : ([Value.pointer (some ⟨B.cb, 0, none⟩), .pointer (some ⟨B.ib, 0, none⟩), .pointer (some ⟨B.nb, 0, none⟩)] ++ V.c.cells ++ tkV V.tk).length = 72 := by simp [Conf.cells, tkV, ht]
  rw [List.getElem?_toArray, List.getElem?_append_right (by omega), e]
  rfl
theorem val_tkat (B : WB) (V : WV) (ht : V.tk.length = 64) (t : Nat) (htt : t < 64) : (B.val V)[8 + t]? = some (.int .u64 (V.tk.getD t 0)) := by
  unfold WB.val worldV
  have e : ([Value.pointer (some ⟨B.cb, 0, none⟩), .pointer (some ⟨B.ib, 0, none⟩), .pointer (some ⟨B.nb, 0, none⟩)] ++ V.c.cells).length = 8 := by simp [Conf.cells]
  rw [List.getElem?_toArray, List.append_assoc, List.getElem?_append_right (by omega), e, show 8 + t - 8 = t by omega, List.getElem?_append_left (by simp [tkV, ht, htt])]
  simp [tkV, show t < V.tk.length by omega]
end

/-- Both worlds; they say the same. -/
structure Pr (w0 w : World) (B R : WB) (V : WV) (s : CS) (x : RS) : Prop where
  ws : WS w0 w B V s
  rd : RD w0 w R V x
  al : Alike s x
theorem Pr.keep {w0 w w' : World} {B R : WB} {V : WV} {s : CS} {x : RS} (h : Pr w0 w B R V s x) (hb : Below w.heap.size w w') : Pr w0 w' B R V s x := ⟨h.ws.keep hb, h.rd.keep hb, h.al⟩
end Go.Proofs.Yteofdldlmmkgbaa

/-
  What is done in the document's world.
-/
namespace Go.Proofs.Yteofdldlmmkgbaa
open Go.RowKit Go.Maps
set_option linter.unusedVariables false

def RS.room (x : RS) : Prop := x.l.length ≤ 100000 ∧ x.cnt ≤ 1000000
theorem RD.lv {w0 w : World} {B : WB} {V : WV} {x : RS} (h : RD w0 w B V x) : w0.heap.size ≤ w.heap.size := h.below.size
theorem RD.c0 {w0 w : World} {B : WB} {V : WV} {x : RS} (h : RD w0 w B V x) : w.cell? ⟨B.wb, 0, none⟩ = some (.pointer (some ⟨B.cb, 0, none⟩)) := (h.cell 0).trans (val_at B V h.tkl).1

section
variable {w0 w : World} {B : WB} {V : WV} {x : RS} (h : RD w0 w B V x) (hr : x.room) (a : Int) (ha : (Lit.int .u64 a).wf = true)
include h hr ha
theorem rwstore (v : Int) (hv : (Lit.int .u64 v).wf = true) : Calls Try.prog 84 #[.pointer (some ⟨B.wb, 0, none⟩), .int .u64 a, .int .u64 v] w fun e w' => e = .returned (.int .u64 (rlook x.l a)) ∧ RD w0 w' B V (x.acc 2 a v) ∧ Fr rTy false w w' := by
  have c0 := h.c0
  obtain ⟨lv, hq⟩ := h.ref
  have hc := rstore_any hq hr.1 hr.2 h.lv a ha v hv
  have H := Lib.hid h
  clear h hq hr ha hv
  go_enter Try.func84, Try.ntmps84
  go_wp2_with (go_at_call 123; refine hc.mono ?_; rintro e w1 ⟨rfl, r1, k1⟩)
  go_ret
  exact ⟨rfl, H.out.acc r1 k1⟩
theorem rwcas (u v : Int) (hv : (Lit.int .u64 v).wf = true) : Calls Try.prog 137 #[.pointer (some ⟨B.wb, 0, none⟩), .int .u64 a, .int .u64 u, .int .u64 v] w fun e w' => e = .returned (.tuple #[.int .u64 (rlook x.l a), .bool (rlook x.l a == u)]) ∧
    RD w0 w' B V (x.acc 3 a (if rlook x.l a = u then v else rlook x.l a)) ∧ Fr rTy false w w' := by
  have c0 := h.c0
  obtain ⟨lv, hq⟩ := h.ref
  have hc := rcas_any hq hr.1 hr.2 h.lv a ha u v hv
  have H := Lib.hid h
  clear h hq hr ha hv
  generalize (if rlook x.l a = u then v else rlook x.l a) = i at hc ⊢
  go_enter Try.func137, Try.ntmps137
  go_wp2_with (go_at_call 150; refine hc.mono ?_; rintro e w1 ⟨rfl, r1, k1⟩)
  go_ret2
  exact ⟨rfl, H.out.acc r1 k1⟩
omit hr ha in
theorem rwpeek : Calls Try.prog 63 #[.pointer (some ⟨B.wb, 0, none⟩), .int .u64 a] w fun e w' => e = .returned (.int .u64 (rlook x.l a)) ∧ w' = w := by
  have c0 := h.c0
  obtain ⟨lv, hq⟩ := h.ref
  have hc := rpeek_any w _ _ _ _ hq a
  clear h hq
  go_enter Try.func63, Try.ntmps63
  go_wp2_with (go_at_call 102; refine hc.mono ?_; rintro e w1 ⟨rfl, rfl⟩)
  go_ret
  exact ⟨rfl, rfl⟩
omit hr ha in
theorem rwsteps : Calls Try.prog 100 #[.pointer (some ⟨B.wb, 0, none⟩)] w fun e w' => e = .returned (.int .i64 x.cnt) ∧ w' = w := by
  have c0 := h.c0
  obtain ⟨lv, hq⟩ := h.ref
  have c1 : w.cell? ⟨B.cb, 1, none⟩ = some (.int .i64 x.cnt) := hq.cell 1
  clear h hq
  go_enter Try.func100, Try.ntmps100
  go_wp2
  go_ret
  exact ⟨rfl, rfl⟩
end

/-- The document's tick of a word. -/
theorem rtick_any (y : Int) (hy : (Lit.int .u64 y).wf = true) (w : World) : Calls Try.prog 138 #[.int .u64 y] w fun e w' => e = .returned (.int .u64 (eTick y)) ∧ w' = w := by
  have hb : 0 ≤ y ∧ y < 18446744073709551616 := by
    have hmin : IntKind.u64.min = 0 := rfl
    have hmax : IntKind.u64.max = 18446744073709551615 := rfl
    simp only [Lit.wf, Bool.and_eq_true, decide_eq_true_eq] at hy; omega
  have b0 : 0 ≤ eNow y ∧ eNow y < 16777216 := by unfold eNow; omega
  have b1 : 0 ≤ eAt y ∧ eAt y < 16777216 := by unfold eAt; omega
  have b2 : 0 ≤ eGen y ∧ eGen y < 65536 := by unfold eGen; omega
  have g0 : y / 16777216 / 16777216 = eGen y := by unfold eGen; omega
  have h1 : ∀ w, Calls Try.prog 151 #[.int .u64 y] w fun e w' => e = .returned (.int .i64 (eNow y)) ∧ w' = w := fun w => by
    have e0 : y % 16777216 = eNow y := rfl
    have e1 : wrap64 (eNow y) = eNow y := IntWalk.wrap64_in _ (by omega)
    generalize eNow y = n at *
    clear g0 b1 b2
    go_enter Try.func151, Try.ntmps151
    go_wp2
    go_ret
    exact ⟨rfl, rfl⟩
  have h2 : ∀ w, Calls Try.prog 152 #[.int .u64 y] w fun e w' => e = .returned (.int .i64 (eAt y)) ∧ w' = w := fun w => by
    have e0 : y / 16777216 % 16777216 = eAt y := rfl
    have e1 : wrap64 (eAt y) = eAt y := IntWalk.wrap64_in _ (by omega)
    generalize eAt y = n at *
    clear g0 b0 b2 h1
    go_enter Try.func152, Try.ntmps152
    go_wp2
    go_ret
    exact ⟨rfl, rfl⟩
  have h3 : ∀ w, Calls Try.prog 153 #[.int .u64 y] w fun e w' => e = .returned (.int .i64 (eGen y)) ∧ w' = w := fun w => by
    have e1 : wrap64 (eGen y) = eGen y := IntWalk.wrap64_in _ (by omega)
    generalize eGen y = n at *
    clear b0 b1 h1 h2
    go_enter Try.func153, Try.ntmps153
    go_wp2
    go_ret
    exact ⟨rfl, rfl⟩
  have h4 : ∀ n a g, (0 ≤ n ∧ n < 16777216) → (0 ≤ a ∧ a < 16777216) → (0 ≤ g ∧ g < 65536) → ∀ w, Calls Try.prog 154 #[.int .i64 n, .int .i64 a, .int .i64 g] w fun e w' => e = .returned (.int .u64 (eWord n a g)) ∧ w' = w := fun n a g hn ha hg w => by
    have e1 : (g * 16777216 + a) * 16777216 + n = eWord n a g := by unfold eWord; omega
    go_enter Try.func154, Try.ntmps154
    go_wp2
    go_ret
    exact ⟨ret_u64 (by rw [← e1]; omega), rfl⟩
  unfold eTick eNext
  clear hy g0 hb
  generalize eNow y = n at *
  generalize eAt y = a at *
  generalize eGen y = g at *
  go_enter Try.func138, Try.ntmps138
  go_wp2_with (first
    | (go_at_call 151; refine (h1 _).mono ?_; rintro e w' ⟨rfl, rfl⟩)
    | (go_at_call 152; refine (h2 _).mono ?_; rintro e w' ⟨rfl, rfl⟩)
    | (go_at_call 153; refine (h3 _).mono ?_; rintro e w' ⟨rfl, rfl⟩)
    | (go_at_call 154; refine (h4 _ _ _ (by omega) (by omega) (by omega) _).mono ?_; rintro e w' ⟨rfl, rfl⟩))
  all_goals go_ret
  all_goals (refine ⟨ret_u64 ?_, rfl⟩)
  all_goals (repeat' (split))
  all_goals (first | rfl | (exfalso; omega) | (unfold eWord; omega))

theorem rwtick {w0 w : World} {B : WB} {V : WV} {x : RS} (h : RD w0 w B V x) (hr : x.room) : Calls Try.prog 112 #[.pointer (some ⟨B.wb, 0, none⟩)] w fun e w' => e = .returned (.tuple #[]) ∧ RD w0 w' B V (x.acc 3 8 (eTick (rlook x.l 8))) ∧ Fr rTy false w w' := by
  have hv : (Lit.int .u64 (rlook x.l 8)).wf = true := by obtain ⟨lv, hq⟩ := h.ref; exact rlook_wf hq 8
  have hp := rwpeek h 8
  have ht := rtick_any _ hv
  have hc := rwcas h hr 8 (by decide) (rlook x.l 8) (eTick (rlook x.l 8)) (etick_wf _)
  rw [if_pos rfl] at hc
  clear h hr hv
  generalize rlook x.l 8 = y at *
  go_enter Try.func112, Try.ntmps112
  go_wp2_with (first
    | (go_at_call 63; refine hp.mono ?_; rintro e w1 ⟨rfl, hw⟩; obtain rfl := hw.symm; clear hp)
    | (go_at_call 138; refine (ht _).mono ?_; rintro e w1 ⟨rfl, hw⟩; obtain rfl := hw.symm; clear ht)
    | (go_at_call 137; refine hc.mono ?_; rintro e w2 ⟨rfl, h2, f2⟩))
  go_end0
  exact ⟨rfl, h2, f2⟩
end Go.Proofs.Yteofdldlmmkgbaa

/-
  A region that draws its order, in segments: what reads, or only makes memory, in whatever order; then one operation that may write, behind all of these and ahead of all others; and so on. One walk of the text's order serves every order.
-/
namespace Go.Proofs.Yteofdldlmmkgbaa
open Go.RowKit
set_option linter.unusedVariables false
section
variable {P : Program} {ops : Array Oper} {md : Region.Mode} {C : World → Prop}

/-- Each operation from k on ahead of n is waited for by a later one, up to n. -/
def sinkK (md : Region.Mode) (ops : Array Oper) (k n : Nat) : Bool := (List.range n).all fun i => decide (i < k) || (List.range (n + 1)).any fun j => decide (i < j) && Region.waitsFor md ops j i
/-- Each operation behind n waits for one from n on. -/
def lateB (md : Region.Mode) (ops : Array Oper) (n : Nat) : Bool :=
  (List.range ops.size).all fun t => decide (t ≤ n) || (match ops[t]? with | some o => o.after.any fun e => Region.binds md e && decide (n ≤ e.on) | none => true)

structure SegInv (md : Region.Mode) (ops : Array Oper) (k n : Nat) (seen : Array Bool) : Prop where
  inv : HeadInv md ops n seen
  head : ∀ i, i < k → seen.getD i false = true
theorem SegInv.set {k n i : Nat} {seen : Array Bool} (h : SegInv md ops k n seen) (hi : i ∈ Region.ready md ops seen) (hin : i < n) : SegInv md ops k n (seen.setIfInBounds i true) := by
  refine ⟨h.inv.set hi hin, fun j hj => ?_⟩
  by_cases hij : i = j
  · subst hij
    have := (mem_ready.1 hi).1
    have := h.head i hj
    have hs : i < seen.size := by
      rcases Nat.lt_or_ge i seen.size with c | c
      · exact c
      · simp [Array.getElem?_eq_none c] at this
    simp [hs]
  · rw [getD_set_ne false hij]; exact h.head j hj

theorem seg_waits {k n : Nat} {seen : Array Bool} (hs : sinkK md ops k n = true) (hl : lateB md ops n = true) (hn : n < ops.size) (inv : SegInv md ops k n seen) :
    ∀ (d i : Nat), n - i = d → i < n → seen.getD i true = false → ∀ t, n ≤ t → t ∉ Region.ready md ops seen := by
  intro d
  induction d using Nat.strongRecOn with
  | _ d ih =>
    intro i hd hi hun t ht hr
    obtain ⟨_, ot, hot, hall⟩ := mem_ready.1 hr
    have htlt : t < ops.size := (Array.getElem?_eq_some_iff.1 hot).1
    by_cases htn : t = n
    · subst htn
      have h1 := List.all_eq_true.1 hs i (List.mem_range.2 hi)
      simp only [Bool.or_eq_true, decide_eq_true_eq] at h1
      rcases h1 with h1 | h1
      · have := inv.head i h1
        rw [getD_both hun] at this; cases this
      obtain ⟨j, hj, hj2⟩ := List.any_eq_true.1 h1
      simp only [Bool.and_eq_true, decide_eq_true_eq] at hj2
      obtain ⟨oj, hoj, e, he, hb, hon⟩ := Region.waitsFor_spec hj2.2
      have hjle : j ≤ t := by have := List.mem_range.1 hj; omega
      by_cases hjt : j = t
      · subst hjt
        have : oj = ot := Option.some.inj (hoj.symm.trans hot)
        subst this
        have h2 := hall e he hb
        rw [hon, getD_both hun] at h2
        cases h2
      · cases hl : seen.getD j false with
        | true =>
          have h2 := inv.inv.closed j oj hoj hl e he hb
          rw [hon, getD_both hun] at h2
          cases h2
        | false =>
          have hjs : j < seen.size := by rw [inv.inv.size]; omega
          exact ih (t - j) (by omega) j rfl (by omega) (getD_in hjs hl) t (Nat.le_refl _) hr
    · have h1 := List.all_eq_true.1 hl t (List.mem_range.2 htlt)
      simp only [Bool.or_eq_true, decide_eq_true_eq, hot] at h1
      rcases h1 with h1 | h1
      · omega
      obtain ⟨e, he, hb⟩ := Array.any_eq_true'.1 h1
      simp only [Bool.and_eq_true, decide_eq_true_eq] at hb
      have h2 := hall e he hb.1
      rcases Nat.lt_or_ge e.on ops.size with c | c
      · have := inv.inv.tail e.on hb.2 c
        rw [getD_both this] at h2; cases h2
      · have : seen.size ≤ e.on := by rw [inv.inv.size]; exact c
        simp [Array.getElem?_eq_none this] at h2

theorem headK_take {k n i : Nat} {oi : Oper} {v : Value} {L : Array Bool → Act → Prop} (hi : ops[i]? = some oi) (hsel : ∀ (j : Nat) (o : Oper) cs b, ops[j]? = some o → o.op ≠ .select cs b)
    (hs : sinkK md ops k n = true) (hl : lateB md ops n = true) (hn : n < ops.size) (hin : i < n) (hdone : ∀ seen a, L seen a → ∀ j, j ∈ Region.ready md ops seen → n ≤ j) (f : Nat) :
    ∀ (seen : Array Bool) (a : Act), SegInv md ops k n seen →
      (∀ j oj, ops[j]? = some oj → j ≠ i → seen.getD j true = false → (∀ e, e ∈ oj.after → Region.binds md e = true → e.on ≠ i) → oi.apart ops oj = true) →
      i ∈ Region.ready md ops seen → YieldsIn P ops C oi v a → HeadQ P md ops C n L f (seen.setIfInBounds i true) (a.put oi.dst v) → HeadQ P md ops C n L (f + 1) seen a := by
  induction f with
  | zero =>
    intro seen a inv _ hr hy H
    have hun : seen.getD i true = false := (mem_ready.1 hr).1
    refine ⟨fun h => by rw [h] at hr; exact absurd hr (by simp), fun j hj => ?_⟩
    by_cases hjn : n ≤ j
    · exact absurd hj (seg_waits hs hl hn inv _ i rfl hin hun j hjn)
    refine ⟨by omega, ?_⟩
    by_cases hji : j = i
    · rw [hji]; exact hy.qOp hi H
    · exact absurd (hdone _ _ H j (ready_mono hj hji)) hjn
  | succ f ih =>
    intro seen a inv hfree hr hy H
    have hun : seen.getD i true = false := (mem_ready.1 hr).1
    refine ⟨fun h => by rw [h] at hr; exact absurd hr (by simp), fun j hj => ?_⟩
    by_cases hjn : n ≤ j
    · exact absurd hj (seg_waits hs hl hn inv _ i rfl hin hun j hjn)
    refine ⟨by omega, ?_⟩
    by_cases hji : j = i
    · rw [hji]; exact hy.qOp hi H
    obtain ⟨hjun, oj, hoj, hall⟩ := mem_ready.1 hj
    have hno : ∀ e, e ∈ oj.after → Region.binds md e = true → e.on ≠ i := by
      intro e he hb heq
      have := hall e he hb
      rw [heq, getD_both hun] at this
      exact absurd this (by simp)
    have step := qOp_put hoj (hfree j oj hoj hji hjun hno) (fun cs b => hsel i oi cs b hi) (fun cs b => hsel j oj cs b hoj) hy (H.2 j (ready_mono hj hji)).2
    refine qOp_mono (fun a' h3 => ?_) step
    refine ih _ a' (inv.set hj (by omega)) ?_ (ready_mono hr (Ne.symm hji)) h3.1 ?_
    · intro k ok hk hki hunk hnok
      refine hfree k ok hk hki ?_ hnok
      by_cases hjk : j = k
      · rw [← hjk]; exact hjun
      · rwa [getD_set_ne true hjk] at hunk
    · rw [Array.setIfInBounds_comm _ _ hji]; exact h3.2

def lexF (md : Region.Mode) (ops : Array Oper) (F : Array Bool → Bool) : Nat → Nat → Array Bool → Bool
  | 0, _, seen => F seen
  | f + 1, k, seen => (Region.ready md ops seen).contains k && Region.free md ops seen k && lexF md ops F f (k + 1) (seen.setIfInBounds k true)
theorem headK_lex {k0 n : Nat} {R : Act → Prop} {F : Array Bool → Bool} (hsel : Region.noSelect ops = true) (hs : sinkK md ops k0 n = true) (hlt : lateB md ops n = true) (hn : n < ops.size)
    (hF : ∀ seen, F seen = true → ∀ j, j ∈ Region.ready md ops seen → n ≤ j) (l : List Oper) :
    ∀ (k : Nat) (seen : Array Bool) (a : Act), (∀ j, j < l.length → l[j]? = ops[k + j]?) → k + l.length = n → SegInv md ops k0 n seen →
      lexF md ops F l.length k seen = true → wpQuiet P ops C R l a → HeadQ P md ops C n (fun seen' a' => SegInv md ops k0 n seen' ∧ F seen' = true ∧ R a') l.length seen a := by
  induction l with
  | nil =>
    intro k seen a _ hk inv hB h
    exact ⟨inv, hB, h⟩
  | cons o l ih =>
    intro k seen a hl hk inv hB h
    have h0 : ops[k]? = some o := by simpa using (hl 0 (by simp)).symm
    simp only [List.length_cons, lexF, Bool.and_eq_true] at hB
    obtain ⟨⟨hr, hf⟩, hB'⟩ := hB
    have hkn : k < n := by simp only [List.length_cons] at hk; omega
    have hr' : k ∈ Region.ready md ops seen := by simpa using hr
    have hq : qOp P ops C k (wpQuiet P ops C R l) a := by unfold qOp; simp only [h0]; exact h
    obtain ⟨v, hy, hK⟩ := yieldsIn_of_qOp h0 hq
    refine headK_take h0 (Region.noSelect_spec hsel) hs hlt hn hkn (fun seen' a' hL => hF seen' hL.2.1) l.length seen a inv (Region.free_spec h0 hf) hr' hy ?_
    refine ih (k + 1) _ _ (fun j hj => ?_) (by simp only [List.length_cons] at hk; omega) (inv.set hr' hkn) hB' hK
    have := hl (j + 1) (by simp; omega)
    simpa [Nat.add_assoc, Nat.add_comm 1 j] using this

abbrev ExtC (w : World) : World → Prop := fun W => ∃ s : ExtW w, W = s.val
def segB (md : Region.Mode) (ops : Array Oper) : List Nat → Nat → Array Bool → Bool
  | [], k, seen => Region.lexFrom md ops (ops.size - k) k seen
  | n :: ns, k, seen => decide (k ≤ n) && decide (n < ops.size) && sinkK md ops k n && lateB md ops n &&
      lexF md ops (fun s => decide (Region.ready md ops s = [n]) && (List.range n).all (fun i => s.getD i false) && segB md ops ns (n + 1) (s.setIfInBounds n true)) (n - k) k seen
def Segs (P : Program) (ops : Array Oper) (Q : Exit → Act → World → Prop) : List Nat → Nat → List Oper → Act → World → Prop
  | [], _, l, a, w => wpQuiet P ops (ExtC w) (fun a' => ∀ W, ExtC w W → Q .normal a' W) l a
  | n :: ns, k, l, a, w => wpQuiet P ops (ExtC w) (fun a' => ∀ W, ExtC w W → Go.wpOp P ops Q n (fun a2 w2 => Segs P ops Q ns (n + 1) (l.drop (n + 1 - k)) a2 w2) a' W) (l.take (n - k)) a

theorem any_of_segs {Q : Exit → Act → World → Prop} (hsel : Region.noSelect ops = true) : ∀ (ns : List Nat) (k : Nat) (l : List Oper) (seen : Array Bool) (a : Act) (w w1 : World), (∀ j, l[j]? = ops[k + j]?) → k + l.length = ops.size →
    (∀ n, k ≤ n → SegInv md ops k n seen) → segB md ops ns k seen = true → ExtC w w1 → Segs P ops Q ns k l a w → wpAny P md ops Q l.length seen a w1
  | [], k, l, seen, a, w, w1, hl, hk, inv, hB, hC, h => by
    simp only [segB, show ops.size - k = l.length by omega] at hB
    exact wpAny_of_quiet (Q := fun a' => ∀ W, ExtC w W → Q .normal a' W) (fun _ w' hw' h => h w' hw') _ _ _ _ hC (wpAnyQ_lex hsel l k seen a hl hB h)
  | n :: ns, k, l, seen, a, w, w1, hl, hk, inv, hB, hC, h => by
    simp only [segB, Bool.and_eq_true, decide_eq_true_eq] at hB
    obtain ⟨⟨⟨⟨hkn, hn⟩, hs⟩, hlt⟩, hB⟩ := hB
    have htl : (l.take (n - k)).length = n - k := by simp; omega
    have hh := headK_lex (P := P) (C := ExtC w) (R := fun a' => ∀ W, ExtC w W → Go.wpOp P ops Q n (fun a2 w2 => Segs P ops Q ns (n + 1) (l.drop (n + 1 - k)) a2 w2) a' W) hsel hs hlt hn (F := fun s => decide (Region.ready md ops s = [n]) && (List.range n).all (fun i => s.getD i false) && segB md ops ns (n + 1) (s.setIfInBounds n true))
      (fun s hF j hj => by
        simp only [Bool.and_eq_true, decide_eq_true_eq] at hF
        rw [hF.1.1] at hj
        have : j = n := by simpa using hj
        omega) (l.take (n - k)) k seen a (fun j hj => by rw [htl] at hj; rw [List.getElem?_take_of_lt hj]; exact hl j) (by rw [htl]; omega) (inv n hkn) (by rw [htl]; exact hB) h
    rw [htl] at hh
    have := any_of_headQ (Q := Q) (g := l.length - (n - k)) (fun seen' a' W hW hL => ?_) _ _ _ _ hC hh
    · rw [show n - k + (l.length - (n - k)) = l.length by omega] at this
      exact this
    · obtain ⟨inv', hF, hR⟩ := hL
      simp only [Bool.and_eq_true, decide_eq_true_eq] at hF
      obtain ⟨⟨hr, hall⟩, hsB⟩ := hF
      rw [show l.length - (n - k) = (l.length - (n - k) - 1) + 1 by omega]
      refine ⟨fun h0 => (by rw [hr] at h0; cases h0), fun i hi => ?_⟩
      have hin : i = n := by rw [hr] at hi; simpa using hi
      subst hin
      refine wpOp_mono (fun a2 w2 h2 => ?_) (hR W hW)
      have hlen : (l.drop (i + 1 - k)).length = l.length - (i - k) - 1 := by simp; omega
      have := any_of_segs hsel ns (i + 1) (l.drop (i + 1 - k)) (seen'.setIfInBounds i true) a2 w2 w2 (fun j => by rw [List.getElem?_drop, hl]; congr 1; omega) (by rw [hlen]; omega) (fun m hm => ?_) hsB ⟨⟨w2, Below.refl _ _⟩, rfl⟩ h2
      · rw [hlen] at this; exact this
      · have hsz : i < seen'.size := by rw [inv'.inv.size]; exact hn
        refine ⟨⟨by simp [inv'.inv.size], fun j oj hj hlj e he hb => ?_, fun t ht ht2 => by rw [getD_set_ne true (by omega)]; exact inv'.inv.tail t (by omega) ht2⟩, fun j hj => ?_⟩
        · by_cases hij : i = j
          · subst hij
            obtain ⟨_, oi, hoi, hall2⟩ := mem_ready.1 hi
            have : oj = oi := Option.some.inj (hj.symm.trans hoi)
            subst this
            have h3 := hall2 e he hb
            by_cases hie : i = e.on
            · rw [← hie]; simp [hsz]
            · rw [getD_set_ne false hie]; exact h3
          · rw [getD_set_ne false hij] at hlj
            have h3 := inv'.inv.closed j oj hj hlj e he hb
            by_cases hie : i = e.on
            · rw [← hie]; simp [hsz]
            · rw [getD_set_ne false hie]; exact h3
        · by_cases hij : i = j
          · subst hij; simp [hsz]
          · rw [getD_set_ne false hij]
            exact List.all_eq_true.1 hall j (List.mem_range.2 (by omega))

/-- The region, in segments; ns: the operations that may write. -/
theorem wp_region_segs {id : Nat} {Q : Exit → Act → World → Prop} {a : Act} {w : World} {l : List Oper} (ns : List Nat) (hm : P.follows .mixedOrders = true) (hsel : Region.noSelect l.toArray = true) (hB : segB .any l.toArray ns 0 (Array.replicate l.toArray.size false) = true)
    (h : Segs P l.toArray Q ns 0 l a w) : (Code.region id l.toArray true).wp P Q a w := by
  refine wp_region_any hm ?_
  have := any_of_segs (P := P) (md := .any) (Q := Q) hsel ns 0 l (Array.replicate l.toArray.size false) a w w.drew (fun j => by simp) (by simp) (fun n _ => ?_) hB ⟨⟨_, (Below.refl _ _).drew⟩, rfl⟩ h
  · simpa using this
  · exact ⟨⟨by simp, fun j oj _ hl => by rw [getD_replicate_false] at hl; exact absurd hl (by simp), fun t _ ht => getD_in (by simpa using ht) (getD_replicate_false _ _)⟩, fun i hi => by omega⟩
/-- The operation that may write is a call. -/
theorem seg_call {Q : Exit → Act → World → Prop} {n : Nat} {K : Act → World → Prop} {o : Oper} {a : Act} {w : World} (hi : ops[n]? = some o) (hw : Region.wanted o (yielded ops a.tmps) = true) (f : FuncId) (args : Array Value) (hrun : (execOp a.eval o).run P w = .ok (.enter f args) w)
    (h : Calls P f args w fun e w' => ∃ v, e = .returned v ∧ K (a.put o.dst v) w') : Go.wpOp P ops Q n K a w := by
  unfold Go.wpOp
  simp only [hi]
  rw [if_pos hw]
  left
  unfold Oper.wp
  rw [hrun]
  simp only [Oper.upon]
  refine h.mono fun e w' ⟨v, he, ht⟩ => ?_
  subst he
  exact ht
/-- .. it is passed by. -/
theorem seg_skip {Q : Exit → Act → World → Prop} {n : Nat} {K : Act → World → Prop} {o : Oper} {a : Act} {w : World} (hi : ops[n]? = some o) (hw : Region.wanted o (yielded ops a.tmps) = false) (h : K (a.put o.dst undef) w) : Go.wpOp P ops Q n K a w := by
  unfold Go.wpOp
  simp only [hi]
  rw [hw]
  simpa using h
end
end Go.Proofs.Yteofdldlmmkgbaa
