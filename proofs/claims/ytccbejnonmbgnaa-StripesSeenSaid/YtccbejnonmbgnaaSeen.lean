/-
  What StripesSeen keeps: counts of 64 stripes; the Mark that is under way.
-/
import Derived.Test.YtccbejnonmbgnaaStripesOf
namespace Go.Proofs.Ytccbejnonmbgnaa
open Go.RowKit Go.Maps
set_option linter.unusedVariables false

/-- An array of 64 words. -/
def arr (f : Nat → Int) : Array Value := (Array.range 64).map fun i => Value.int .u64 (f i)
theorem arr_get (f : Nat → Int) (i : Nat) (h : i < 64) : (arr f)[i]? = some (.int .u64 (f i)) := by simp [arr, h]
theorem arr_size (f : Nat → Int) : (arr f).size = 64 := by simp [arr]
def fset (f : Nat → Int) (i : Nat) (v : Int) : Nat → Int := fun j => if j = i then v else f j
theorem arr_set (f : Nat → Int) (i : Nat) (v : Int) (h : i < 64) : (arr f).setIfInBounds i (.int .u64 v) = arr (fset f i v) := by
  apply Array.ext_getElem?
  intro j
  rw [Array.getElem?_setIfInBounds, arr_size]
  by_cases hj : i = j
  · subst hj; rw [if_pos rfl, if_pos h, arr_get _ _ h]; simp [fset]
  · rw [if_neg hj]
    by_cases hl : j < 64
    · rw [arr_get _ _ hl, arr_get _ _ hl]; simp [fset, Ne.symm hj]
    · rw [Array.getElem?_eq_none (by rw [arr_size]; omega), Array.getElem?_eq_none (by rw [arr_size]; omega)]

/-- The three arrays: what was added, what then, what was seen. -/
structure Three (w : World) (q0 q1 q2 : Nat) (f g : Nat → Int) : Prop where
  a0 : w.heap[q0]? = some (.cells (arr f) 36 (0, 0))
  a1 : w.heap[q1]? = some (.cells (arr g) 36 (0, 0))
  a2 : w.heap[q2]? = some (.cells (arr g) 36 (0, 0))
theorem Three.keep {w w' : World} {q0 q1 q2 : Nat} {f g : Nat → Int} (h : Three w q0 q1 q2 f g) (hb : Below w.heap.size w w') : Three w' q0 q1 q2 f g :=
  ⟨(hb.block _ (Array.getElem?_eq_some_iff.1 h.a0).1).trans h.a0, (hb.block _ (Array.getElem?_eq_some_iff.1 h.a1).1).trans h.a1, (hb.block _ (Array.getElem?_eq_some_iff.1 h.a2).1).trans h.a2⟩
theorem Three.rest {w w' : World} {q0 q1 q2 : Nat} {f g : Nat → Int} (h : Three w q0 q1 q2 f g) (hb : Rest w w') : Three w' q0 q1 q2 f g :=
  ⟨hb _ _ _ _ h.a0 rfl rfl, hb _ _ _ _ h.a1 rfl rfl, hb _ _ _ _ h.a2 rfl rfl⟩
theorem Three.cell {w : World} {q0 q1 q2 : Nat} {f g : Nat → Int} (h : Three w q0 q1 q2 f g) (i : Nat) (hi : i < 64) :
    w.cell? ⟨q0, i, none⟩ = some (.int .u64 (f i)) ∧ w.cell? ⟨q1, i, none⟩ = some (.int .u64 (g i)) ∧ w.cell? ⟨q2, i, none⟩ = some (.int .u64 (g i)) := by
  have h0 := h.a0; have h1 := h.a1; have h2 := h.a2
  have hf := arr_get f i hi; have hg := arr_get g i hi
  simp [World.cell?, h0, h1, h2, hf, hg]
theorem Three.free {w : World} {q0 q1 q2 : Nat} {f g : Nat → Int} (h : Three w q0 q1 q2 f g) (i : Nat) : w.frozen? ⟨q0, i, none⟩ = false ∧ w.frozen? ⟨q1, i, none⟩ = false ∧ w.frozen? ⟨q2, i, none⟩ = false := by
  have h0 := h.a0; have h1 := h.a1; have h2 := h.a2
  simp [World.frozen?, h0, h1, h2]

theorem last_wld {w0 w : World} {wb cb : Nat} {c : Conf} {s : CS} (h : Wld w0 w wb cb c s) : Calls Try.prog 27 #[.pointer (some ⟨cb, 0, none⟩)] w fun e w' => e = .returned (accV s.kind s.addr s.was s.is) ∧ Below w.heap.size w w' := by
  obtain ⟨⟨S, hS⟩, hB⟩ := h.own
  exact last_any w _ cb s S hS

theorem acc_field1 (k a x i : Int) (w : World) : (Instr.field 55 (.agg #[.int .u8 k, .int .u64 a, .int .u64 x, .int .u64 i]) 1).run Try.prog w = .ok (.int .u64 a) w := by kernel_rfl
theorem acc_field0 (k a x i : Int) (w : World) : (Instr.field 55 (.agg #[.int .u8 k, .int .u64 a, .int .u64 x, .int .u64 i]) 0).run Try.prog w = .ok (.int .u8 k) w := by kernel_rfl
/-- A Mark under way, or none. -/
def Under (w0 w : World) (m : Value) : Prop := m = .pointer none ∨ ∃ mb a r, m = .pointer (some ⟨mb, 0, none⟩) ∧ MarkAt w mb (a :: r) ∧ w0.heap.size ≤ mb ∧ ∀ x ∈ a :: r, 64 ≤ x ∧ x < 128
theorem Under.keep {w0 w w' : World} {m : Value} (h : Under w0 w m) (hb : Below w.heap.size w w') : Under w0 w' m :=
  h.imp id fun ⟨mb, a, r, h1, h2, h3⟩ => ⟨mb, a, r, h1, h2.keep hb, h3⟩
theorem Under.rest {w0 w w' : World} {m : Value} (h : Under w0 w m) (hb : Rest w w') : Under w0 w' m :=
  h.imp id fun ⟨mb, a, r, h1, h2, h3⟩ => ⟨mb, a, r, h1, h2.rest hb, h3⟩
theorem MarkAt.other {w w' : World} {mb q : Nat} {xs : List Int} {cs : Array Value} (h : MarkAt w mb xs) (hk : Keeps (· = q) w w') (hq : w.heap[q]? = some (.cells cs 36 (0, 0))) : MarkAt w' mb xs := by
  obtain ⟨v, h1, h2⟩ := h
  refine ⟨v, (hk.block mb (Array.getElem?_eq_some_iff.1 h1).1 fun c => ?_).trans h1, ?_⟩
  · subst c; have := h1.symm.trans hq; simp only [Option.some.injEq, Obj.cells.injEq] at this; exact absurd this.2.1 (by decide)
  · rcases h2 with h2 | ⟨g, off, cur, rfl, h3, h4⟩
    · exact .inl h2
    · refine .inr ⟨g, off, cur, rfl, (hk.block g (Array.getElem?_eq_some_iff.1 h3).1 fun c => ?_).trans h3, h4⟩
      subst c; have := h3.symm.trans hq; simp only [Option.some.injEq, Obj.cells.injEq] at this; exact absurd this.2.1 (by decide)
theorem Under.other {w0 w w' : World} {m : Value} {q : Nat} {cs : Array Value} (h : Under w0 w m) (hk : Keeps (· = q) w w') (hq : w.heap[q]? = some (.cells cs 36 (0, 0))) : Under w0 w' m :=
  h.imp id fun ⟨mb, a, r, h1, h2, h3⟩ => ⟨mb, a, r, h1, h2.other hk hq, h3⟩
theorem Three.mark {w w' : World} {q0 q1 q2 mb : Nat} {f g : Nat → Int} {xs : List Int} (h : Three w q0 q1 q2 f g) (hm : MarkAt w mb xs)
    (hf : ∀ (k : Nat) (cs : Array Value) (T : TypeId) (fr : Nat × Nat), w.heap[k]? = some (Obj.cells cs T fr) → (T == 136) = false → (T == 227) = false → k ≠ mb → w'.heap[k]? = some (Obj.cells cs T fr)) : Three w' q0 q1 q2 f g := by
  obtain ⟨v, h1, -⟩ := hm
  have hne : ∀ q F, w.heap[q]? = some (.cells (arr F) 36 (0, 0)) → q ≠ mb := fun q F hq c => by
    subst c; have := h1.symm.trans hq; simp only [Option.some.injEq, Obj.cells.injEq] at this; exact absurd this.2.1 (by decide)
  exact ⟨hf _ _ _ _ h.a0 rfl rfl (hne _ _ h.a0), hf _ _ _ _ h.a1 rfl rfl (hne _ _ h.a1), hf _ _ _ _ h.a2 rfl rfl (hne _ _ h.a2)⟩
theorem vof_mem {l : List (Int × Int)} : ∀ x ∈ vof l, 64 ≤ x ∧ x < 128 := by
  have key : ∀ (l : List (Int × Int)) (o : List Int), (∀ x ∈ o, 64 ≤ x ∧ x < 128) → ∀ x ∈ l.foldl vstep o, 64 ≤ x ∧ x < 128 := by
    intro l
    induction l with
    | nil => intro o h; exact h
    | cons p l ih =>
      intro o h
      refine ih _ fun x hx => ?_
      unfold vstep at hx
      split at hx
      · exact h x hx
      · split at hx
        · exact h x hx
        · rename_i hz _
          rcases List.mem_append.1 hx with hx | hx
          · exact h x hx
          · simp only [List.mem_singleton] at hx
            subst hx
            unfold ver at hz ⊢
            unfold stripe at hz ⊢
            split
            · omega
            · rename_i hh; rw [if_neg hh] at hz; exact absurd rfl hz
  exact key l [] (by simp)
theorem vof_cons {p : Int × Int} {l : List (Int × Int)} (h : hasP p.1 p.2 = true) : ∃ a r, vof (p :: l) = a :: r := by
  have hv : ver p.1 p.2 ≠ 0 := by unfold ver stripe; rw [h, if_pos rfl]; omega
  have e : vstep [] p = [ver p.1 p.2] := by unfold vstep; rw [if_neg hv]; rfl
  have key : ∀ (l : List (Int × Int)) (o : List Int), o ≠ [] → l.foldl vstep o ≠ [] := by
    intro l
    induction l with
    | nil => intro o h; exact h
    | cons p l ih =>
      intro o h
      refine ih _ ?_
      unfold vstep
      split
      · exact h
      · split
        · exact h
        · simp
  have := key l [ver p.1 p.2] (by simp)
  cases hh : vof (p :: l) with
  | nil =>
    exfalso; apply this
    rw [← e]; exact hh
  | cons a r => exact ⟨a, r, rfl⟩
theorem arr_zero : arr (fun _ => 0) = #[.int .u64 0, .int .u64 0, .int .u64 0, .int .u64 0, .int .u64 0, .int .u64 0, .int .u64 0, .int .u64 0, .int .u64 0, .int .u64 0, .int .u64 0, .int .u64 0, .int .u64 0, .int .u64 0, .int .u64 0, .int .u64 0, .int .u64 0, .int .u64 0, .int .u64 0, .int .u64 0, .int .u64 0, .int .u64 0, .int .u64 0, .int .u64 0, .int .u64 0, .int .u64 0, .int .u64 0, .int .u64 0, .int .u64 0, .int .u64 0, .int .u64 0, .int .u64 0, .int .u64 0, .int .u64 0, .int .u64 0, .int .u64 0, .int .u64 0, .int .u64 0, .int .u64 0, .int .u64 0, .int .u64 0, .int .u64 0, .int .u64 0, .int .u64 0, .int .u64 0, .int .u64 0, .int .u64 0, .int .u64 0, .int .u64 0, .int .u64 0, .int .u64 0, .int .u64 0, .int .u64 0, .int .u64 0, .int .u64 0, .int .u64 0, .int .u64 0, .int .u64 0, .int .u64 0, .int .u64 0, .int .u64 0, .int .u64 0, .int .u64 0, .int .u64 0] := by kernel_rfl
theorem three_new (w : World) : Three (((w.alloc (.cells (arr (fun _ => 0)) 36)).alloc (.cells (arr (fun _ => 0)) 36)).alloc (.cells (arr (fun _ => 0)) 36)) w.heap.size (w.heap.size + 1) (w.heap.size + 1 + 1) (fun _ => 0) (fun _ => 0) := by
  generalize hO : (Obj.cells (arr (fun _ => 0)) 36) = o
  have e1 := heap_alloc_new w (.cells (arr (fun _ => 0)) 36)
  have e2 := heap_alloc_new (w.alloc (.cells (arr (fun _ => 0)) 36)) (.cells (arr (fun _ => 0)) 36)
  have e3 := heap_alloc_new ((w.alloc (.cells (arr (fun _ => 0)) 36)).alloc (.cells (arr (fun _ => 0)) 36)) (.cells (arr (fun _ => 0)) 36)
  have s1 : (w.alloc (.cells (arr (fun _ => 0)) 36)).heap.size = w.heap.size + 1 := by simp
  have s2 : ((w.alloc (.cells (arr (fun _ => 0)) 36)).alloc (.cells (arr (fun _ => 0)) 36)).heap.size = w.heap.size + 1 + 1 := by simp
  rw [s1] at e2
  rw [s2] at e3
  rw [hO] at e1 e2 e3 s1 s2
  refine ⟨?_, ?_, by rw [hO]; exact e3⟩
  · rw [Below.heap_alloc _ _ _ (by rw [s2]; omega), Below.heap_alloc _ _ _ (by rw [s1]; omega), hO]; exact e1
  · rw [Below.heap_alloc _ _ _ (by rw [s2]; omega), hO]; exact e2

theorem Three.set0 {w : World} {q0 q1 q2 : Nat} {f g : Nat → Int} (h : Three w q0 q1 q2 f g) (n1 : q0 ≠ q1) (n2 : q0 ≠ q2) (t : Nat) (ht : t < 64) (v : Int) : Three (w.setCell ⟨q0, t, none⟩ (.int .u64 v)) q0 q1 q2 (fset f t v) g := by
  refine ⟨?_, ?_, ?_⟩
  · rw [← arr_set f t v ht]; exact setCell_same h.a0 t _
  · rw [Below.heap_setCell _ _ _ _ (Ne.symm n1)]; exact h.a1
  · rw [Below.heap_setCell _ _ _ _ (Ne.symm n2)]; exact h.a2
theorem Three.set12 {w : World} {q0 q1 q2 : Nat} {f g : Nat → Int} (h : Three w q0 q1 q2 f g) (n1 : q0 ≠ q1) (n2 : q0 ≠ q2) (n3 : q1 ≠ q2) (t : Nat) (ht : t < 64) (v : Int) :
    Three ((w.setCell ⟨q2, t, none⟩ (.int .u64 v)).setCell ⟨q1, t, none⟩ (.int .u64 v)) q0 q1 q2 f (fset g t v) := by
  have b2 := setCell_same h.a2 t (.int .u64 v)
  rw [arr_set g t v ht] at b2
  refine ⟨?_, ?_, ?_⟩
  · rw [Below.heap_setCell _ _ _ _ n1, Below.heap_setCell _ _ _ _ n2]; exact h.a0
  · rw [← arr_set g t v ht]; exact setCell_same (by rw [Below.heap_setCell _ _ _ _ n3]; exact h.a1) t _
  · rw [Below.heap_setCell _ _ _ _ (Ne.symm n3)]; exact b2
/-- What stands behind k steps. -/
structure SeenAt (w wr : World) (wb cb q0 q1 q2 : Nat) (c : Conf) (m : Value) (k : Nat) (s : CS) (f g : Nat → Int) : Prop where
  wld : Wld w wr wb cb c s
  arrs : Three wr q0 q1 q2 f g
  under : Under w wr m
  val : ∀ t : Nat, t < 64 → s.val (64 + (t : Int)) = f t ∧ 0 ≤ f t ∧ f t ≤ (k : Int)
  le : s.n ≤ 1 + k ∧ s.cnt ≤ 1 + k
  lo : w.heap.size ≤ q0 ∧ w.heap.size ≤ q1 ∧ w.heap.size ≤ q2
  ne : q0 ≠ q1 ∧ q0 ≠ q2 ∧ q1 ≠ q2
theorem SeenAt.load {w wr W : World} {wb cb q0 q1 q2 : Nat} {c : Conf} {m : Value} {k : Nat} {s : CS} {f g : Nat → Int} (h : SeenAt w wr wb cb q0 q1 q2 c m k s f g) (t : Nat) (ht : t < 64)
    (hK : Wld w W wb cb c (s.acc 1 (64 + (t : Int)) (f t))) (hT : Three W q0 q1 q2 f g) (hU : Under w W m) :
    SeenAt w ((W.setCell ⟨q2, t, none⟩ (.int .u64 (f t))).setCell ⟨q1, t, none⟩ (.int .u64 (f t))) wb cb q0 q1 q2 c m (k + 1) (s.acc 1 (64 + (t : Int)) (f t)) f (fset g t (f t)) := by
  obtain ⟨l0, l1, l2⟩ := h.lo
  obtain ⟨n1, n2, n3⟩ := h.ne
  have a1 : (W.setCell ⟨q2, t, none⟩ (.int .u64 (f t))).heap[q1]? = _ := (Below.heap_setCell _ _ _ _ n3).trans hT.a1
  refine ⟨(hK.other (setCell_keeps _ _ _ _) hT.a2 l2 rfl rfl rfl).other (setCell_keeps _ _ _ _) a1 l1 rfl rfl rfl, hT.set12 n1 n2 n3 t ht _, (hU.other (setCell_keeps _ _ _ _) hT.a2).other (setCell_keeps _ _ _ _) a1, fun i hi => ?_, ?_, h.lo, h.ne⟩
  · obtain ⟨v1, v2, v3⟩ := h.val i hi
    refine ⟨?_, v2, by push_cast; omega⟩
    by_cases e : i = t
    · subst e; exact upd_same _ _ _
    · exact (upd_other _ (by omega) _).trans v1
  · have := h.le; simp only [CS.acc]; omega
theorem SeenAt.add {w wr W : World} {wb cb q0 q1 q2 : Nat} {c : Conf} {m m' : Value} {k : Nat} {s : CS} {f g : Nat → Int} (h : SeenAt w wr wb cb q0 q1 q2 c m k s f g) (t : Nat) (ht : t < 64) (hk : k ≤ 1000)
    (hK : Wld w W wb cb c (s.acc 4 (64 + (t : Int)) (wu (s.val (64 + (t : Int)) + 1)))) (hT : Three W q0 q1 q2 f g) (hU : Under w W m') :
    SeenAt w (W.setCell ⟨q0, t, none⟩ (.int .u64 (f t + 1))) wb cb q0 q1 q2 c m' (k + 1) (s.acc 4 (64 + (t : Int)) (wu (s.val (64 + (t : Int)) + 1))) (fset f t (f t + 1)) g := by
  obtain ⟨l0, l1, l2⟩ := h.lo
  obtain ⟨n1, n2, n3⟩ := h.ne
  refine ⟨hK.other (setCell_keeps _ _ _ _) hT.a0 l0 rfl rfl rfl, hT.set0 n1 n2 t ht _, hU.other (setCell_keeps _ _ _ _) hT.a0, fun i hi => ?_, ?_, h.lo, h.ne⟩
  · obtain ⟨v1, v2, v3⟩ := h.val i hi
    by_cases e : i = t
    · subst e
      refine ⟨(upd_same _ _ _).trans ?_, by simp [fset]; omega, by simp [fset]; omega⟩
      rw [v1, wu_eq]; simp [fset]; omega
    · refine ⟨(upd_other _ (by omega) _).trans (v1.trans (by simp [fset, e])), by simp [fset, e]; omega, by simp [fset, e]; omega⟩
  · have := h.le; simp only [CS.acc]; omega
theorem SeenAt.wait {w wr : World} {wb cb q0 q1 q2 : Nat} {c : Conf} {m : Value} {k : Nat} {s : CS} {f g : Nat → Int} (h : SeenAt w wr wb cb q0 q1 q2 c m k s f g) : SeenAt w wr wb cb q0 q1 q2 c m (k + 1) s f g :=
  ⟨h.wld, h.arrs, h.under, fun t ht => by obtain ⟨v1, v2, v3⟩ := h.val t ht; exact ⟨v1, v2, by push_cast; omega⟩, by have := h.le; omega, h.lo, h.ne⟩

def yv (y0 y1 y2 : Int) (q : Nat) : Int := match q with
  | 0 => y0
  | 1 => y1
  | _ => y2
/-- The places of a change. -/
def Yl (n S : Int) (y : Nat → Int) (q : Nat) : List (Int × Int) := (List.range q).map fun i => (n, y i % S)
theorem Yl_len (n S : Int) (y : Nat → Int) (q : Nat) : (Yl n S y q).length = q := by simp [Yl]
theorem Yl_flat (n S : Int) (y : Nat → Int) (q : Nat) : flat (Yl n S y (q + 1)) = flat (Yl n S y q) ++ [.int .i64 n, .int .i64 (y q % S)] := by
  simp [Yl, flat, List.range_succ]
theorem Yl_cons (n S : Int) (y : Nat → Int) (q : Nat) : ∃ r, Yl n S y (q + 1) = (n, y 0 % S) :: r := by
  unfold Yl; rw [List.range_succ_eq_map]; exact ⟨_, rfl⟩
/-- A list of triples that may be read. -/
structure Trip (w : World) (a : Option Addr) (cap : Nat) (l : List (Int × Int × Int)) : Prop where
  le : l.length ≤ cap
  most : cap ≤ maxLen
  nil : a = none → cap = 0
  wf : ∀ x ∈ l, (0 ≤ x.1 ∧ x.1 < 65536) ∧ (0 ≤ x.2.1 ∧ x.2.1 < 65536) ∧ 0 ≤ x.2.2 ∧ x.2.2 < 65536
  cell : l = [] ∨ ∃ b off, a = some ⟨b, off, none⟩ ∧ ∀ i, (hi : i < l.length) → w.cell? ⟨b, off + i * 3, none⟩ = some (.int .u16 (l[i]).1) ∧ w.cell? ⟨b, off + i * 3 + 1, none⟩ = some (.int .u16 (l[i]).2.1) ∧ w.cell? ⟨b, off + i * 3 + 2, none⟩ = some (.int .u16 (l[i]).2.2)
theorem Trip.at {w : World} {a : Option Addr} {cap : Nat} {l : List (Int × Int × Int)} (h : Trip w a cap l) (i : Nat) (hi : i < l.length) :
    ∃ b off x y z, a = some ⟨b, off, none⟩ ∧ ((0 ≤ x ∧ x < 65536) ∧ (0 ≤ y ∧ y < 65536) ∧ 0 ≤ z ∧ z < 65536) ∧ w.cell? ⟨b, off + i * 3, none⟩ = some (.int .u16 x) ∧ w.cell? ⟨b, off + i * 3 + 1, none⟩ = some (.int .u16 y) ∧ w.cell? ⟨b, off + i * 3 + 2, none⟩ = some (.int .u16 z) := by
  rcases h.cell with rfl | ⟨b, off, rfl, h5⟩
  · simp at hi
  · exact ⟨b, off, l[i].1, l[i].2.1, l[i].2.2, rfl, h.wf _ (List.getElem_mem hi), h5 i hi⟩
theorem Trip.below {w w' : World} {a : Option Addr} {cap : Nat} {l : List (Int × Int × Int)} (h : Trip w a cap l) (hb : Below w.heap.size w w') : Trip w' a cap l := by
  refine ⟨h.le, h.most, h.nil, h.wf, h.cell.imp id fun ⟨b, off, e, h5⟩ => ⟨b, off, e, fun i hi => ?_⟩⟩
  obtain ⟨h6, h7, h8⟩ := h5 i hi
  exact ⟨(hb.cell (World.block_lt_of_cell? _ _ h6)).trans h6, (hb.cell (World.block_lt_of_cell? _ _ h7)).trans h7, (hb.cell (World.block_lt_of_cell? _ _ h8)).trans h8⟩
/-- A list of bytes that may be read. -/
structure Byt (w : World) (a : Option Addr) (cap : Nat) (l : List Int) : Prop where
  le : l.length ≤ cap
  most : cap ≤ maxLen
  nil : a = none → cap = 0
  wf : ∀ x ∈ l, 0 ≤ x ∧ x < 256
  cell : l = [] ∨ ∃ b off, a = some ⟨b, off, none⟩ ∧ ∀ i, (hi : i < l.length) → w.cell? ⟨b, off + i, none⟩ = some (.int .u8 l[i])
theorem Byt.at {w : World} {a : Option Addr} {cap : Nat} {l : List Int} (h : Byt w a cap l) (i : Nat) (hi : i < l.length) :
    ∃ b off x, a = some ⟨b, off, none⟩ ∧ (0 ≤ x ∧ x < 256) ∧ w.cell? ⟨b, off + i, none⟩ = some (.int .u8 x) := by
  rcases h.cell with rfl | ⟨b, off, rfl, h5⟩
  · simp at hi
  · exact ⟨b, off, l[i], rfl, h.wf _ (List.getElem_mem hi), h5 i hi⟩
theorem Byt.below {w w' : World} {a : Option Addr} {cap : Nat} {l : List Int} (h : Byt w a cap l) (hb : Below w.heap.size w w') : Byt w' a cap l := by
  refine ⟨h.le, h.most, h.nil, h.wf, h.cell.imp id fun ⟨b, off, e, h5⟩ => ⟨b, off, e, fun i hi => ?_⟩⟩
  have h6 := h5 i hi
  exact (hb.cell (World.block_lt_of_cell? _ _ h6)).trans h6
end Go.Proofs.Ytccbejnonmbgnaa
