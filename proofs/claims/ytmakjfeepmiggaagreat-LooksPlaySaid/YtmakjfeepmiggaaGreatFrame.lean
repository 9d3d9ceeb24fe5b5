/-
  A world and the document's world, each by itself, with all that they have; of which types the blocks are that an operation turns.
-/
import Derived.Test.YtmakjfeepmiggaaGreatSame
import Derived.Test.YtmakjfeepmiggaaGreatItemsAt
import Derived.Test.YtmakjfeepmiggaaGreatItemsRefAt
import Derived.Test.YtmakjfeepmiggaaGreatRef10
namespace Go.Proofs.YtmakjfeepmiggaaGreat
open Go.RowKit Go.Maps
set_option linter.unusedVariables false

/-- Types of the blocks that a world is made of; that the document's is made of. -/
def wTy (T : TypeId) : Bool := T == 239 || T == 294 || T == 117 || T == 242 || T == 248 || T == 250 || T == 286 || T == 171
def rTy (T : TypeId) : Bool := T == 160 || T == 155 || T == 221 || T == 223 || T == 80 || T == 163 || T == 168
def wrTy (T : TypeId) : Bool := wTy T || rTy T
/-- Of the old blocks only such of some types have turned, and maps only where it is said. -/
structure Fr (K : TypeId → Bool) (mp : Bool) (w w' : World) : Prop where
  size : w.heap.size ≤ w'.heap.size
  cells : ∀ (k : Nat) (cs : Array Value) (T : TypeId) (fr : Nat × Nat), w.heap[k]? = some (.cells cs T fr) → K T = false → w'.heap[k]? = some (.cells cs T fr)
  map : mp = false → ∀ (k : Nat) (es : Array MapEntry) (cl : Nat), w.heap[k]? = some (.map es cl) → w'.heap[k]? = some (.map es cl)
theorem Fr.refl (K : TypeId → Bool) (mp : Bool) (w : World) : Fr K mp w w := ⟨Nat.le_refl _, fun _ _ _ _ h _ => h, fun _ _ _ _ h => h⟩
theorem Fr.trans {K : TypeId → Bool} {mp : Bool} {a b c : World} (h : Fr K mp a b) (k : Fr K mp b c) : Fr K mp a c :=
  ⟨Nat.le_trans h.size k.size, fun i cs T fr hi hT => k.cells i cs T fr (h.cells i cs T fr hi hT) hT, fun hm i es cl hi => k.map hm i es cl (h.map hm i es cl hi)⟩
theorem Fr.mono {K K' : TypeId → Bool} {mp mp' : Bool} {a b : World} (h : Fr K mp a b) (hK : ∀ T, K' T = false → K T = false) (hm : mp' = false → mp = false) : Fr K' mp' a b :=
  ⟨h.size, fun i cs T fr hi hT => h.cells i cs T fr hi (hK T hT), fun h2 => h.map (hm h2)⟩
theorem below_fr {w w' : World} (h : Below w.heap.size w w') (K : TypeId → Bool) (mp : Bool) : Fr K mp w w' :=
  ⟨h.size, fun k cs T fr hk _ => (h.block k (Array.getElem?_eq_some_iff.1 hk).1).trans hk, fun _ k es cl hk => (h.block k (Array.getElem?_eq_some_iff.1 hk).1).trans hk⟩
theorem rest_fr {w w' : World} (h : Rest w w') (hs : w.heap.size ≤ w'.heap.size) : Fr wTy true w w' :=
  ⟨hs, fun k cs T fr hk hT => h k cs T fr hk (by unfold wTy at hT; simp only [Bool.or_eq_false_iff] at hT; exact hT.1.1.1.1.1.1.1) (by unfold wTy at hT; simp only [Bool.or_eq_false_iff] at hT; exact hT.1.1.1.1.1.1.2), fun h => by cases h⟩
theorem keeps_fr {S : Nat → Prop} {w w' : World} (h : Keeps S w w') (K : TypeId → Bool) (mp : Bool) (hs : ∀ k, S k → ∃ cs T fr, w.heap[k]? = some (.cells cs T fr) ∧ K T = true) : Fr K mp w w' := by
  refine ⟨h.size, fun k cs T fr hk hT => (h.block k (Array.getElem?_eq_some_iff.1 hk).1 fun c => ?_).trans hk, fun _ k es cl hk => (h.block k (Array.getElem?_eq_some_iff.1 hk).1 fun c => ?_).trans hk⟩
  · obtain ⟨cs2, T2, fr2, h2, h3⟩ := hs k c
    have := h2.symm.trans hk
    simp only [Option.some.injEq, Obj.cells.injEq] at this
    rw [this.2.1, hT] at h3; cases h3
  · obtain ⟨cs2, T2, fr2, h2, h3⟩ := hs k c
    have := h2.symm.trans hk
    cases this
theorem wr_of_w {w w' : World} (h : Fr wTy true w w') : Fr wrTy true w w' := h.mono (fun T hT => by unfold wrTy at hT; simp only [Bool.or_eq_false_iff] at hT; exact hT.1) (fun h => by cases h)
theorem wr_of_r {w w' : World} (h : Fr rTy false w w') : Fr wrTy true w w' := h.mono (fun T hT => by unfold wrTy at hT; simp only [Bool.or_eq_false_iff] at hT; exact hT.2) (fun h => by cases h)

theorem own_fr {K : TypeId → Bool} {mp : Bool} {w w' : World} {base e size n : Nat} {v : Value} {xs : List Value} (h : w.ownsRow base e size v n xs) (hf : Fr K mp w w') (he : K e = false) : w'.ownsRow base e size v n xs := by
  obtain ⟨h1, h2 | ⟨g, cap, cur, hv, hb1, hg, r⟩⟩ := h
  · exact ⟨h1, .inl h2⟩
  · exact ⟨h1, .inr ⟨g, cap, cur, hv, hb1, hf.cells _ _ _ _ hg he, r⟩⟩
theorem Arena.ty {w : World} {base b : Nat} {l : List Itm} {S : Nat → Prop} (h : Arena w base b l S) : ∀ k, S k → ∃ cs T, w.heap[k]? = some (.cells cs T (0, 0)) ∧ (T = 242 ∨ T = 248 ∨ T = 250) := by
  obtain ⟨ao, cap, ps, h, rfl⟩ := h
  rintro k (rfl | ⟨a, rfl, rfl⟩ | hk)
  · exact ⟨_, _, h.hdr, .inl rfl⟩
  · rcases h.own.2 with ⟨hn, _⟩ | ⟨g, c, cur, hv, hg, hh, r⟩
    · cases hn
    · simp only [Value.slice.injEq, Option.some.injEq] at hv
      rw [hv.1]
      exact ⟨_, _, hh, .inr (.inl rfl)⟩
  · obtain ⟨j, hj, rfl⟩ := List.mem_iff_getElem.1 hk
    obtain ⟨cs, h1, _⟩ := h.blk j hj
    exact ⟨_, _, h1, .inr (.inr rfl)⟩
theorem RArena.ty {w : World} {base b : Nat} {l : List Itm} {S : Nat → Prop} (h : RArena w base b l S) : ∀ k, S k → ∃ cs T, w.heap[k]? = some (.cells cs T (0, 0)) ∧ (T = 223 ∨ T = 80) := by
  obtain ⟨ao, cap, h, rfl⟩ := h
  rintro k (rfl | ⟨a, rfl, rfl⟩)
  · exact ⟨_, _, h.hdr, .inl rfl⟩
  · rcases h.own.2 with ⟨hn, _⟩ | ⟨g, c, cur, hv, hg, hh, r⟩
    · cases hn
    · simp only [Value.slice.injEq, Option.some.injEq] at hv
      rw [hv.1]
      exact ⟨_, _, hh, .inr rfl⟩
theorem Arena.fr {K : TypeId → Bool} {mp : Bool} {w w' : World} {base b : Nat} {l : List Itm} {S : Nat → Prop} (h : Arena w base b l S) (hf : Fr K mp w w') (h1 : K 242 = false) (h2 : K 248 = false) (h3 : K 250 = false) : Arena w' base b l S :=
  h.keep fun k hk => by
    obtain ⟨cs, T, he, hT⟩ := h.ty k hk
    rw [he]
    refine hf.cells _ _ _ _ he ?_
    rcases hT with rfl | rfl | rfl <;> assumption
theorem RArena.fr {K : TypeId → Bool} {mp : Bool} {w w' : World} {base b : Nat} {l : List Itm} {S : Nat → Prop} (h : RArena w base b l S) (hf : Fr K mp w w') (h1 : K 223 = false) (h2 : K 80 = false) : RArena w' base b l S :=
  h.keep fun k hk => by
    obtain ⟨cs, T, he, hT⟩ := h.ty k hk
    rw [he]
    refine hf.cells _ _ _ _ he ?_
    rcases hT with rfl | rfl <;> assumption
theorem Own.fr {K : TypeId → Bool} {w0 w w' : World} {b : Nat} {s : CS} (h : Own w0 w b s) (hf : Fr K false w w') (hB : Below w0.heap.size w0 w') (h1 : K 239 = false) (h2 : K 294 = false) : Own w0 w' b s := by
  obtain ⟨⟨S, hS⟩, _⟩ := h
  refine ⟨⟨S, hS.keep fun k hk => ?_⟩, hB⟩
  obtain ⟨mo, f, hA, rfl⟩ := hS
  rcases hk with rfl | hm | ⟨a, ha⟩
  · rw [hA.hdr]; exact hf.cells _ _ _ _ hA.hdr h1
  · obtain ⟨⟨D, ⟨es, cl, hb, _⟩, _⟩, _⟩ := hA.map k hm
    rw [hb]; exact hf.map rfl _ _ _ hb
  · have := (hA.ptr a k ha).1
    rw [this]; exact hf.cells _ _ _ _ this h2

/-- A note. -/
structure Nte where
  step : Int
  thread : Int
  kind : Int
  ref : Int
  bits : Int
  bucket : Int
  slot : Int
  value : Int
def nteC (q : IntKind) (n : Nte) : List Value := [.int .i64 n.step, .int .i64 n.thread, .int q n.kind, .int .i64 n.ref, .int .i64 n.bits, .int .i64 n.bucket, .int .i64 n.slot, .int .i64 n.value]
/-- A list of notes. -/
def NL (w : World) (base nb TL TN : Nat) (q : IntKind) (l : List Nte) : Prop := ∃ v, w.heap[nb]? = some (.cells #[v] TL (0, 0)) ∧ base ≤ nb ∧ w.ownsRow base TN 8 v l.length (l.flatMap (nteC q))
theorem NL.fr {K : TypeId → Bool} {mp : Bool} {w w' : World} {base nb TL TN : Nat} {q : IntKind} {l : List Nte} (h : NL w base nb TL TN q l) (hf : Fr K mp w w') (h1 : K TL = false) (h2 : K TN = false) : NL w' base nb TL TN q l := by
  obtain ⟨v, h3, h4, h5⟩ := h
  exact ⟨v, hf.cells _ _ _ _ h3 h1, h4, own_fr h5 hf h2⟩
theorem NL.nil {w : World} {base nb TL : Nat} (TN : Nat) (q : IntKind) (h : w.heap[nb]? = some (.cells #[.slice none 0 0] TL (0, 0))) (hb : base ≤ nb) : NL w base nb TL TN q [] := ⟨_, h, hb, World.ownsRow_nil _ _ _ _⟩

/-- The blocks of a world. -/
structure WB where
  wb : Nat
  cb : Nat
  ib : Nat
  nb : Nat
/-- What a world has besides its cells. -/
structure WV where
  c : Conf
  its : List Itm
  nts : List Nte
  tk : List Int
  hd : Int
  fm : List (Nat × Array MapEntry × Nat)
def tkV (l : List Int) : List Value := l.map fun t => .int .u64 t
def WB.val (B : WB) (V : WV) : Array Value := (worldV B.cb B.ib B.nb V.c (tkV V.tk) V.hd).toArray

/-- Maps that are others'. -/
def FM (w : World) (cb : Nat) (l : List (Nat × Array MapEntry × Nat)) : Prop := ∀ q ∈ l, w.heap[q.1]? = some (.map q.2.1 q.2.2) ∧ w.cell? ⟨cb, 0, none⟩ ≠ some (.map (some q.1))
theorem own_hdr {w0 w : World} {b : Nat} {s : CS} (h : Own w0 w b s) : ∃ cs, w.heap[b]? = some (.cells cs 239 (0, 0)) := by
  obtain ⟨⟨S, mo, f, hA, rfl⟩, _⟩ := h
  exact ⟨_, hA.hdr⟩
theorem FM.fr {K : TypeId → Bool} {w0 w w' : World} {cb : Nat} {s : CS} {l : List (Nat × Array MapEntry × Nat)} (h : FM w cb l) (ho : Own w0 w cb s) (hf : Fr K false w w') (h1 : K 239 = false) : FM w' cb l := by
  obtain ⟨cs, hh⟩ := own_hdr ho
  have e : w'.cell? ⟨cb, 0, none⟩ = w.cell? ⟨cb, 0, none⟩ := by
    have := hf.cells _ _ _ _ hh h1
    unfold World.cell?; simp only; rw [this, hh]
  exact fun q hq => ⟨hf.map rfl _ _ _ (h q hq).1, by rw [e]; exact (h q hq).2⟩
theorem cells_out {w : World} {base b : Nat} {mo : Option Nat} {f : Int → Option Nat} {s : CS} (hC : CellsAt w base b mo f s) {k cl : Nat} {es : Array MapEntry} (h1 : w.heap[k]? = some (.map es cl)) (h2 : w.cell? ⟨b, 0, none⟩ ≠ some (.map (some k))) : ¬ cellsFp b mo f k := by
  rintro (e | e | ⟨a, e⟩)
  · rw [e, hC.hdr] at h1; cases h1
  · exact h2 (by simp [World.cell?, hC.hdr, hdrC, e])
  · have := (hC.ptr a _ e).1; rw [h1] at this; cases this
theorem FM.acc {w w' : World} {base b : Nat} {s s' : CS} {S : Nat → Prop} {l : List (Nat × Array MapEntry × Nat)} (h : FM w b l) (hS : Cells w base b s S) (hA : Acc w base b s' S w') : FM w' b l := by
  obtain ⟨mo, f, hC, rfl⟩ := hS
  obtain ⟨S', ⟨mo', f', hC', rfl⟩, hk, hs⟩ := hA
  intro q hq
  obtain ⟨h1, h2⟩ := h q hq
  have hns := cells_out hC h1 h2
  have hlt := (Array.getElem?_eq_some_iff.1 h1).1
  have e := hk.block q.1 hlt hns
  refine ⟨e.trans h1, fun c => ?_⟩
  have e2 : w'.cell? ⟨b, 0, none⟩ = some (.map mo') := by simp [World.cell?, hC'.hdr, hdrC]
  rw [e2] at c
  simp only [Option.some.injEq, Value.map.injEq] at c
  rcases hs q.1 (.inr (.inl c)) with x | x
  · exact hns x
  · omega
theorem FM.nil (w : World) (b : Nat) : FM w b [] := fun q hq => (by cases hq)

/-- The program's world. -/
structure WS (w0 w : World) (B : WB) (V : WV) (s : CS) : Prop where
  own : Own w0 w B.cb s
  blk : w.heap[B.wb]? = some (.cells (B.val V) 117 (0, 0))
  lo : w0.heap.size ≤ B.wb
  ar : ∃ S, Arena w w0.heap.size B.ib V.its S
  nt : NL w w0.heap.size B.nb 286 171 .u8 V.nts
  tkl : V.tk.length = 64
  fmk : FM w B.cb V.fm
/-- The document's world. -/
structure RD (w0 w : World) (B : WB) (V : WV) (x : RS) : Prop where
  below : Below w0.heap.size w0 w
  ref : ∃ lv, RCells w w0.heap.size B.cb lv x
  blk : w.heap[B.wb]? = some (.cells (B.val V) 160 (0, 0))
  lo : w0.heap.size ≤ B.wb
  ar : ∃ S, RArena w w0.heap.size B.ib V.its S
  nt : NL w w0.heap.size B.nb 163 168 .i64 V.nts
  tkl : V.tk.length = 64

section
variable {w0 w w' : World} {B : WB} {V : WV} {s s' : CS} {x x' : RS}
theorem WS.below (h : WS w0 w B V s) : Below w0.heap.size w0 w := h.own.below
theorem WS.wld (h : WS w0 w B V s) : Wld w0 w B.wb B.cb V.c s := ⟨h.own, B.ib, B.nb, tkV V.tk, V.hd, h.blk⟩
theorem WS.fr {K : TypeId → Bool} (h : WS w0 w B V s) (hf : Fr K false w w') (hK : ∀ T, wTy T = true → K T = false) (hB : Below w0.heap.size w0 w') : WS w0 w' B V s := by
  obtain ⟨S, ha⟩ := h.ar
  exact ⟨h.own.fr hf hB (hK _ rfl) (hK _ rfl), hf.cells _ _ _ _ h.blk (hK _ rfl), h.lo, ⟨S, ha.fr hf (hK _ rfl) (hK _ rfl) (hK _ rfl)⟩, h.nt.fr hf (hK _ rfl) (hK _ rfl), h.tkl, h.fmk.fr h.own hf (hK _ rfl)⟩
theorem WS.keep (h : WS w0 w B V s) (hb : Below w.heap.size w w') : WS w0 w' B V s :=
  h.fr (below_fr hb (fun _ => false) false) (fun _ _ => rfl) (h.below.trans (hb.mono h.below.size))
theorem w_not_r (T : TypeId) (h : wTy T = true) : rTy T = false := by
  unfold wTy at h
  simp only [Bool.or_eq_true, beq_iff_eq] at h
  rcases h with ((((((rfl | rfl) | rfl) | rfl) | rfl) | rfl) | rfl) | rfl <;> rfl
theorem r_not_w (T : TypeId) (h : rTy T = true) : wTy T = false := by
  cases hw : wTy T
  · rfl
  · rw [w_not_r T hw] at h; cases h
theorem WS.byr (h : WS w0 w B V s) (hf : Fr rTy false w w') (hB : Below w0.heap.size w0 w') : WS w0 w' B V s := h.fr hf w_not_r hB
/-- Behind an access. -/
theorem WS.acc (h : WS w0 w B V s) (ho : Own w0 w' B.cb s') (hr : Rest w w') (hs : w.heap.size ≤ w'.heap.size) (hfm : FM w' B.cb V.fm) : WS w0 w' B V s' ∧ Fr wTy true w w' := by
  obtain ⟨S, ha⟩ := h.ar
  have hf : Fr (fun T => T == 239 || T == 294) true w w' := ⟨hs, fun k cs T fr hk hT => by simp only [Bool.or_eq_false_iff] at hT; exact hr k cs T fr hk hT.1 hT.2, fun h => by cases h⟩
  exact ⟨⟨ho, hf.cells _ _ _ _ h.blk rfl, h.lo, ⟨S, ha.fr hf rfl rfl rfl⟩, h.nt.fr hf rfl rfl, h.tkl, hfm⟩, rest_fr hr hs⟩
theorem RD.fr {K : TypeId → Bool} {mp : Bool} (h : RD w0 w B V x) (hf : Fr K mp w w') (hK : ∀ T, rTy T = true → K T = false) (hB : Below w0.heap.size w0 w') : RD w0 w' B V x := by
  obtain ⟨S, ha⟩ := h.ar
  obtain ⟨lv, hr⟩ := h.ref
  exact ⟨hB, ⟨lv, hf.cells _ _ _ _ hr.hdr (hK _ rfl), hr.lo, own_fr hr.row hf (hK _ rfl), hr.wf⟩, hf.cells _ _ _ _ h.blk (hK _ rfl), h.lo, ⟨S, ha.fr hf (hK _ rfl) (hK _ rfl)⟩, h.nt.fr hf (hK _ rfl) (hK _ rfl), h.tkl⟩
theorem RD.keep (h : RD w0 w B V x) (hb : Below w.heap.size w w') : RD w0 w' B V x :=
  h.fr (below_fr hb (fun _ => false) false) (fun _ _ => rfl) (h.below.trans (hb.mono h.below.size))
theorem RD.byw (h : RD w0 w B V x) (hf : Fr wTy true w w') (hB : Below w0.heap.size w0 w') : RD w0 w' B V x := h.fr hf r_not_w hB
theorem RD.acc (h : RD w0 w B V x) (hr : ∃ lv, RCells w' w0.heap.size B.cb lv x') (hk : Keeps (· = B.cb) w w') : RD w0 w' B V x' ∧ Fr rTy false w w' := by
  obtain ⟨S, ha⟩ := h.ar
  obtain ⟨lv, hr0⟩ := h.ref
  have hf : Fr (fun T => T == 155) false w w' := keeps_fr hk _ _ fun k e => ⟨_, _, _, e ▸ hr0.hdr, rfl⟩
  refine ⟨⟨keeps_below hk h.below h.below.size fun k e => e ▸ hr0.lo, hr, hf.cells _ _ _ _ h.blk rfl, h.lo, ⟨S, ha.fr hf rfl rfl⟩, h.nt.fr hf rfl rfl, h.tkl⟩, hf.mono (fun T hT => ?_) id⟩
  unfold rTy at hT; simp only [Bool.or_eq_false_iff] at hT; exact hT.1.1.1.1.1.2

/-- A store into the world's own block. -/
theorem WS.set (h : WS w0 w B V s) (o : Nat) (v : Value) (V' : WV) (hv : (B.val V).setIfInBounds o v = B.val V') (hi : V'.its = V.its) (hn : V'.nts = V.nts) (ht : V'.tk.length = 64) (hq : V'.fm = V.fm := by rfl) :
    WS w0 (w.setCell ⟨B.wb, o, none⟩ v) B V' s ∧ Fr wTy true w (w.setCell ⟨B.wb, o, none⟩ v) := by
  obtain ⟨S, ha⟩ := h.ar
  have hk := setCell_keeps w B.wb o v
  have hB : Below w0.heap.size w0 (w.setCell ⟨B.wb, o, none⟩ v) := keeps_below hk h.below h.below.size fun k e => e ▸ h.lo
  have hf : Fr (fun T => T == 117) false w (w.setCell ⟨B.wb, o, none⟩ v) := keeps_fr hk _ _ fun k e => ⟨_, _, _, e ▸ h.blk, rfl⟩
  refine ⟨⟨h.own.fr hf hB rfl rfl, by rw [← hv]; exact setCell_same h.blk o v, h.lo, ⟨S, hi ▸ ha.fr hf rfl rfl rfl⟩, hn ▸ h.nt.fr hf rfl rfl, ht, hq ▸ h.fmk.fr h.own hf rfl⟩, hf.mono (fun T hT => ?_) (fun h => by cases h)⟩
  unfold wTy at hT; simp only [Bool.or_eq_false_iff] at hT; exact hT.1.1.1.1.1.2
theorem RD.set (h : RD w0 w B V x) (o : Nat) (v : Value) (V' : WV) (hv : (B.val V).setIfInBounds o v = B.val V') (hi : V'.its = V.its) (hn : V'.nts = V.nts) (ht : V'.tk.length = 64) :
    RD w0 (w.setCell ⟨B.wb, o, none⟩ v) B V' x ∧ Fr rTy false w (w.setCell ⟨B.wb, o, none⟩ v) := by
  obtain ⟨S, ha⟩ := h.ar
  obtain ⟨lv, hr⟩ := h.ref
  have hk := setCell_keeps w B.wb o v
  have hB : Below w0.heap.size w0 (w.setCell ⟨B.wb, o, none⟩ v) := keeps_below hk h.below h.below.size fun k e => e ▸ h.lo
  have hf : Fr (fun T => T == 160) false w (w.setCell ⟨B.wb, o, none⟩ v) := keeps_fr hk _ _ fun k e => ⟨_, _, _, e ▸ h.blk, rfl⟩
  refine ⟨⟨hB, ⟨lv, hf.cells _ _ _ _ hr.hdr rfl, hr.lo, own_fr hr.row hf rfl, hr.wf⟩, by rw [← hv]; exact setCell_same h.blk o v, h.lo, ⟨S, hi ▸ ha.fr hf rfl rfl⟩, hn ▸ h.nt.fr hf rfl rfl, ht⟩, hf.mono (fun T hT => ?_) id⟩
  unfold rTy at hT; simp only [Bool.or_eq_false_iff] at hT; exact hT.1.1.1.1.1.1
theorem val_hd (B : WB) (V : WV) (ht : V.tk.length = 64) (h : Int) : (B.val V).setIfInBounds 72 (.int .i64 h) = B.val { V with hd := h } := by
  unfold WB.val worldV
  have e : ([Value.pointer (some ⟨B.cb, 0, none⟩), .pointer (some ⟨B.ib, 0, none⟩), .pointer (some ⟨B.nb, 0, none⟩)] ++ V.c.cells ++ tkV V.tk).length = 72 := by simp [Conf.cells, tkV, ht]
  rw [List.setIfInBounds_toArray, List.set_append_right _ _ (by omega), e]
  rfl
theorem val_tk (B : WB) (V : WV) (ht : V.tk.length = 64) (t : Nat) (htt : t < 64) (v : Int) : (B.val V).setIfInBounds (8 + t) (.int .u64 v) = B.val { V with tk := V.tk.set t v } := by
  unfold WB.val worldV
  have e : ([Value.pointer (some ⟨B.cb, 0, none⟩), .pointer (some ⟨B.ib, 0, none⟩), .pointer (some ⟨B.nb, 0, none⟩)] ++ V.c.cells).length = 8 := by simp [Conf.cells]
  rw [List.setIfInBounds_toArray, List.append_assoc, List.set_append_right _ _ (by omega), e, show 8 + t - 8 = t by omega, List.set_append_left _ _ (by simp [tkV, ht, htt])]
  simp [tkV, List.map_set]
theorem WS.cell (h : WS w0 w B V s) (o : Nat) : w.cell? ⟨B.wb, o, none⟩ = (B.val V)[o]? := by unfold World.cell?; simp only; rw [h.blk]; rfl
theorem RD.cell (h : RD w0 w B V x) (o : Nat) : w.cell? ⟨B.wb, o, none⟩ = (B.val V)[o]? := by unfold World.cell?; simp only; rw [h.blk]; rfl
theorem val_at (B : WB) (V : WV) (ht : V.tk.length = 64) : (B.val V)[0]? = some (.pointer (some ⟨B.cb, 0, none⟩)) ∧ (B.val V)[1]? = some (.pointer (some ⟨B.ib, 0, none⟩)) ∧ (B.val V)[2]? = some (.pointer (some ⟨B.nb, 0, none⟩)) ∧
    (B.val V)[3]? = some (.int .i64 V.c.bits) ∧ (B.val V)[4]? = some (.int .i64 V.c.budget) ∧ (B.val V)[72]? = some (.int .i64 V.hd) := by
  refine ⟨rfl, rfl, rfl, rfl, rfl, ?_⟩
  unfold WB.val worldV
  have e : ([Value.pointer (some ⟨B.cb, 0, none⟩), .pointer (some ⟨B.ib, 0, none⟩), .pointer (some ⟨B.nb, 0, none⟩)] ++ V.c.cells ++ tkV V.tk).length = 72 := by simp [Conf.cells, tkV, ht]
  rw [List.getElem?_toArray, List.getElem?_append_right (by omega), e]
  rfl
theorem val_tkat (B : WB) (V : WV) (ht : V.tk.length = 64) (t : Nat) (htt : t < 64) : (B.val V)[8 + t]? = some (.int .u64 (V.tk.getD t 0)) := by
  unfold WB.val worldV
  have e : ([Value.pointer (some ⟨B.cb, 0, none⟩), .pointer (some ⟨B.ib, 0, none⟩), .pointer (some ⟨B.nb, 0, none⟩)] ++ V.c.cells).length = 8 := by simp [Conf.cells]
  rw [List.getElem?_toArray, List.append_assoc, List.getElem?_append_right (by omega), e, show 8 + t - 8 = t by omega, List.getElem?_append_left (by simp [tkV, ht, htt])]
  simp [tkV, show t < V.tk.length by omega]
end

theorem WS.more {w0 w : World} {B : WB} {V : WV} {s : CS} (h : WS w0 w B V s) {m cl : Nat} {es : Array MapEntry} (hm : w.heap[m]? = some (.map es cl)) (hne : w.cell? ⟨B.cb, 0, none⟩ ≠ some (.map (some m))) : WS w0 w B { V with fm := (m, es, cl) :: V.fm } s :=
  ⟨h.own, h.blk, h.lo, h.ar, h.nt, h.tkl, fun q hq => by
    rcases List.mem_cons.1 hq with rfl | hq
    · exact ⟨hm, hne⟩
    · exact h.fmk q hq⟩
theorem WS.less {w0 w : World} {B : WB} {V : WV} {s : CS} (h : WS w0 w B V s) (l : List (Nat × Array MapEntry × Nat)) (hl : ∀ q ∈ l, q ∈ V.fm) : WS w0 w B { V with fm := l } s := ⟨h.own, h.blk, h.lo, h.ar, h.nt, h.tkl, fun q hq => h.fmk q (hl q hq)⟩
/-- Another map has turned. -/
theorem WS.turn {w0 w w' : World} {B : WB} {V : WV} {s : CS} (h : WS w0 w B V s) {m cl : Nat} {es : Array MapEntry} (hm : w.heap[m]? = some (.map es cl)) (hne : w.cell? ⟨B.cb, 0, none⟩ ≠ some (.map (some m))) (hlo : w0.heap.size ≤ m) (hg : w.grownBy w' (some m)) (hv : ∀ q ∈ V.fm, q.1 ≠ m) :
    WS w0 w' B V s ∧ w'.cell? ⟨B.cb, 0, none⟩ ≠ some (.map (some m)) := by
  have hb : ∀ i, i < w.heap.size → i ≠ m → w'.heap[i]? = w.heap[i]? := fun i hi hne => hg.block i hi (fun c => hne (by cases c; rfl))
  have hf : Fr (fun _ => false) true w w' := ⟨hg.size, fun k cs T fr hk _ => (hb k (Array.getElem?_eq_some_iff.1 hk).1 (fun c => by rw [c, hm] at hk; cases hk)).trans hk, fun h => by cases h⟩
  have hB : Below w0.heap.size w0 w' := h.below.trans ⟨hg.os, hg.tape, hg.output, hg.size, fun k hk => hb k (Nat.lt_of_lt_of_le hk h.below.size) (fun c => by omega)⟩
  obtain ⟨cs, hh⟩ := own_hdr h.own
  have e : w'.cell? ⟨B.cb, 0, none⟩ = w.cell? ⟨B.cb, 0, none⟩ := by
    have := hf.cells _ _ _ _ hh rfl
    unfold World.cell?; simp only; rw [this, hh]
  have ho : Own w0 w' B.cb s := by
    obtain ⟨⟨S, hS⟩, _⟩ := h.own
    refine ⟨⟨S, hS.keep fun k hk => ?_⟩, hB⟩
    obtain ⟨mo, f, hA, rfl⟩ := hS
    have hno := cells_out hA hm hne
    have hkm : k ≠ m := fun c => hno (c ▸ hk)
    refine hb k ?_ hkm
    rcases hk with rfl | hk | ⟨a, ha⟩
    · exact (Array.getElem?_eq_some_iff.1 hA.hdr).1
    · exact (hA.map k hk).1.lt
    · exact (Array.getElem?_eq_some_iff.1 (hA.ptr a k ha).1).1
  obtain ⟨S, ha⟩ := h.ar
  exact ⟨⟨ho, hf.cells _ _ _ _ h.blk rfl, h.lo, ⟨S, ha.fr hf rfl rfl rfl⟩, h.nt.fr hf rfl rfl, h.tkl, fun q hq => by
    obtain ⟨h1, h2⟩ := h.fmk q hq
    exact ⟨(hb q.1 (Array.getElem?_eq_some_iff.1 h1).1 (hv q hq)).trans h1, by rw [e]; exact h2⟩⟩, by rw [e]; exact hne⟩
/-- A new map is not the cells'. -/
theorem WS.apart {w0 w : World} {B : WB} {V : WV} {s : CS} (h : WS w0 w B V s) {m : Nat} (hm : w.heap.size ≤ m) : w.cell? ⟨B.cb, 0, none⟩ ≠ some (.map (some m)) := by
  obtain ⟨⟨S, mo, f, hA, rfl⟩, _⟩ := h.own
  intro c
  have e2 : w.cell? ⟨B.cb, 0, none⟩ = some (.map mo) := by simp [World.cell?, hA.hdr, hdrC]
  rw [e2] at c
  simp only [Option.some.injEq, Value.map.injEq] at c
  have := (hA.map m c).1.lt
  omega
/-- Both worlds; they say the same. -/
structure Pr (w0 w : World) (B R : WB) (V : WV) (s : CS) (x : RS) : Prop where
  ws : WS w0 w B V s
  rd : RD w0 w R V x
  al : Alike s x
theorem Pr.keep {w0 w w' : World} {B R : WB} {V : WV} {s : CS} {x : RS} (h : Pr w0 w B R V s x) (hb : Below w.heap.size w w') : Pr w0 w' B R V s x := ⟨h.ws.keep hb, h.rd.keep hb, h.al⟩
end Go.Proofs.YtmakjfeepmiggaaGreat
