/-
  HistsPart: the walk.
-/
import Derived.Test.YtmagpbbjjkmbpaaHistPartLaw
import Derived.Test.YtmagpbbjjkmbpaaMix
import Derived.Deep.DeepCutAuto
import Derived.Deep.CutBlock
namespace Go.Proofs.Ytmagpbbjjkmbpaa
open Go.RowKit Go.Maps Go.Sort
set_option linter.unusedVariables false

/-- A list of bools that may be read. -/
structure BoolRd (w : World) (a : Option Addr) (cap : Nat) (l : List Bool) : Prop where
  le : l.length ≤ cap
  most : cap ≤ maxLen
  cell : l = [] ∨ ∃ b off, a = some ⟨b, off, none⟩ ∧ ∀ i, (hi : i < l.length) → w.cell? ⟨b, off + i, none⟩ = some (.bool l[i])
theorem bools_of {w : World} {v : Value} (h : Leaf.holds w (.sl [.bool]) v) : ∃ (l : List Bool) (a : Option Addr) (cap : Nat), v = .slice a l.length cap ∧ BoolRd w a cap l := by
  obtain ⟨l, a, cap, rfl, h1, h2, h3, h4, h5⟩ := recs_of h
  obtain ⟨m, hm, hp⟩ := list_of (fun i (x : Bool) => l[i]? = some [.bool x]) l.length (fun i hi => by
    obtain ⟨c0, r, e0, g0, h⟩ := allHold_cons (h4 _ (List.getElem_mem hi))
    obtain rfl := allHold_nil h
    obtain ⟨z0, rfl⟩ := holds_bool g0
    exact ⟨z0, by rw [List.getElem?_eq_getElem hi, e0]⟩)
  refine ⟨m, a, cap, by rw [hm], ⟨by omega, h2, ?_⟩⟩
  rcases h5 with rfl | ⟨b, off, rfl, h6⟩
  · exact .inl (List.length_eq_zero_iff.1 hm)
  · refine .inr ⟨b, off, rfl, fun i hi => ?_⟩
    have hi2 : i < l.length := by omega
    have hq := hp i (by omega)
    rw [List.getElem?_eq_getElem hi2, Option.some.injEq] at hq
    have a0 := h6 i hi2 0 (by decide)
    rw [hq] at a0
    simpa using a0
theorem leaves_bools : leaves Try.prog 4 60 = some [.sl [.bool]] := by kernel_rfl
theorem BoolRd.below {w w' : World} {a : Option Addr} {cap : Nat} {l : List Bool} (h : BoolRd w a cap l) (hb : Below w.heap.size w w') : BoolRd w' a cap l :=
  ⟨h.le, h.most, h.cell.imp id fun ⟨b, off, e, h5⟩ => ⟨b, off, e, fun i hi => (hb.cell (World.block_lt_of_cell? _ _ (h5 i hi))).trans (h5 i hi)⟩⟩
def outF (l : List Bool) (i : Nat) : Bool := l.getD i false
theorem outF_at (l : List Bool) (i : Nat) (hi : i < l.length) : outF l i = l[i] := by simp [outF, hi]
theorem outF_no (l : List Bool) (i : Nat) (hi : l.length ≤ i) : outF l i = false := by simp [outF, hi]
theorem range_below {w w' : World} {b o : Nat} {cl : List Value} (h : w.rangeAt b o cl) (hb : Below w.heap.size w w') : w'.rangeAt b o cl := fun j v hv => by
  have h1 := h j v hv
  exact (hb.cell (World.block_lt_of_cell? _ _ h1)).trans h1
theorem fill_one (zs : Array Value) (cl : List Value) (s : Nat) (hs : cl.length = s) (hz : zs.size = s) : Instr.fill (fun i => some (i * s, s)) zs [(0, .agg cl.toArray)] = some cl.toArray := by
  unfold Instr.fill
  simp only [Value.cells, Nat.zero_mul, Nat.zero_add]
  rw [if_neg (by simp [hs, hz])]
  unfold Instr.fill
  have h1 := fold_all cl zs (by omega)
  have h2 : cl.toArray.zipIdx = cl.zipIdx.toArray := by simp
  rw [h2]
  simpa using congrArg some h1
theorem ofL_snoc (l : List HC) (x : HC) (t : Int) : ofL (l ++ [x]) t = if x.th = t then ofL l t ++ [x] else ofL l t := by
  unfold ofL
  rw [List.filter_append]
  by_cases h : x.th = t <;> simp [h]
theorem own_sl34 {w : World} {base e size n : Nat} {v : Value} {xs : List Value} (h : w.ownsRow base e size v n xs) : ∃ a cap, v = .slice a n cap := by
  obtain ⟨-, ⟨e, e2⟩ | ⟨g, cap, cur, e, -⟩⟩ := h
  · exact ⟨none, 0, by rw [e, e2]⟩
  · exact ⟨_, _, e⟩
theorem own_ne {w : World} {base e size n p T : Nat} {fr : Nat × Nat} {cs : Array Value} {v : Value} {xs : List Value} (h : w.ownsRow base e size v n xs) (hp : w.heap[p]? = some (.cells cs T fr)) (hne : T ≠ e) : v.ownBlock ≠ some p := by
  obtain ⟨-, ⟨rfl, -⟩ | ⟨g, cap, cur, rfl, hb, hg, -⟩⟩ := h
  · intro c; simp [Value.ownBlock] at c
  · intro c
    simp only [Value.ownBlock, Option.some.injEq] at c
    subst c
    have := hg.symm.trans hp
    simp only [Option.some.injEq, Obj.cells.injEq] at this
    exact hne this.2.1.symm
theorem own_set {w : World} {base e size n p T : Nat} {fr : Nat × Nat} {cs : Array Value} {v : Value} {xs : List Value} (h : w.ownsRow base e size v n xs) (hp : w.heap[p]? = some (.cells cs T fr)) (hne : T ≠ e) (o : Nat) (x : Value) : (w.setCell ⟨p, o, none⟩ x).ownsRow base e size v n xs := by
  have hn := own_ne h hp hne
  obtain ⟨h1, ⟨rfl, h2⟩ | ⟨g, cap, cur, rfl, hb, hg, h3⟩⟩ := h
  · exact ⟨h1, .inl ⟨rfl, h2⟩⟩
  · refine ⟨h1, .inr ⟨g, cap, cur, rfl, hb, ?_, h3⟩⟩
    exact ((setCell_keeps w p o x).block g (Array.getElem?_eq_some_iff.1 hg).1 (fun c => hn (by rw [show g = p from c]; rfl))).trans hg
theorem own_grow {w w' : World} {base e e2 size size2 n n2 : Nat} {v v2 : Value} {xs xs2 : List Value} (h : w.ownsRow base e size v n xs) (h2 : w.ownsRow base e2 size2 v2 n2 xs2) (hg : w.grownBy w' v2.ownBlock) (hne : e ≠ e2) : w'.ownsRow base e size v n xs := by
  obtain ⟨h1, ⟨rfl, h2⟩ | ⟨g, cap, cur, rfl, hb, hgg, h3⟩⟩ := h
  · exact ⟨h1, .inl ⟨rfl, h2⟩⟩
  · exact ⟨h1, .inr ⟨g, cap, cur, rfl, hb, (hg.block g (Array.getElem?_eq_some_iff.1 hgg).1 (fun c => own_ne h2 hgg hne c.symm)).trans hgg, h3⟩⟩
theorem info_drop : (Try.prog.info? 62).map (fun i => (i.zero, i.size, i.bytes)) = some (some (.agg #[.int .i64 0, .string ⟨#[]⟩, .string ⟨#[]⟩, .int .u32 0, .int .u64 0, .int .i64 0, .int .i64 0]), 7, 72) := by kernel_rfl
/-- A row of calls, its first one apart, that may be written. -/
structure Row1 (w : World) (g cap : Nat) (x : HC) (r : List HC) : Prop where
  hcs : HCs w (some ⟨g, 0, none⟩) cap (x :: r)
  frz : ∀ o, w.frozen? ⟨g, o, none⟩ = false
theorem Row1.at0 {w : World} {g cap : Nat} {x : HC} {r : List HC} (h : Row1 w g cap x r) (j : Nat) (hj : j < 20) : w.cell? ⟨g, j, none⟩ = x.cells[j]? := by
  rcases h.hcs.cell with h1 | ⟨b, off, e, h2⟩
  · cases h1
  · simp only [Option.some.injEq, Addr.mk.injEq, and_true] at e
    obtain ⟨rfl, rfl⟩ := e
    have := h2 0 (by simp) j hj
    simpa using this
theorem Row1.lt {w : World} {g cap : Nat} {x : HC} {r : List HC} (h : Row1 w g cap x r) : g < w.heap.size := World.block_lt_of_cell? _ _ ((h.at0 0 (by decide)).trans (show x.cells[0]? = some (.int .i64 x.th) from rfl))
theorem Row1.below {w w' : World} {g cap : Nat} {x : HC} {r : List HC} (h : Row1 w g cap x r) (hb : Below w.heap.size w w') : Row1 w' g cap x r := ⟨h.hcs.below hb, fun o => (hb.frozen (p := ⟨g, o, none⟩) h.lt).trans (h.frz o)⟩
theorem Row1.range {w : World} {g cap : Nat} {x : HC} {r : List HC} (h : Row1 w g cap x r) : w.rangeAt g 0 x.cells := fun j v hv => by
  have hj : j < 20 := (List.getElem?_eq_some_iff.1 hv).1
  rw [Nat.zero_add, h.at0 j hj]; exact hv
theorem Row1.there {w : World} {g cap : Nat} {x : HC} {r : List HC} (h : Row1 w g cap x r) (o n : Nat) (hn : o + n ≤ 20) : w.there g o n := fun j hj => ⟨by
  have hl : x.cells.length = 20 := rfl
  rw [h.at0 (o + j) (by omega), List.getElem?_eq_getElem (by omega)]; rfl, h.frz _⟩
theorem Row1.sets {w : World} {g cap : Nat} {x x' : HC} {r : List HC} (h : Row1 w g cap x r) (o : Nat) (vs : List Value) (ho : o + vs.length ≤ 20) (hx : ∀ j, j < 20 → x'.cells[j]? = if o ≤ j ∧ j < o + vs.length then vs[j - o]? else x.cells[j]?) (hwf : x'.wf) : Row1 (w.setCells g o vs) g cap x' r := by
  have hth := h.there o vs.length ho
  refine ⟨⟨h.hcs.le, h.hcs.most, h.hcs.nil, fun y hy => ?_, .inr ⟨g, 0, rfl, fun i hi j hj => ?_⟩⟩, fun k => by rw [World.frozen?_setCells]; exact h.frz k⟩
  · rcases List.mem_cons.1 hy with rfl | hy
    · exact hwf
    · exact h.hcs.wf y (List.mem_cons_of_mem _ hy)
  · rcases h.hcs.cell with h1 | ⟨b, off, e, h2⟩
    · cases h1
    · simp only [Option.some.injEq, Addr.mk.injEq, and_true] at e
      obtain ⟨rfl, rfl⟩ := e
      match i with
      | 0 =>
        rw [Nat.zero_mul, Nat.zero_add, Nat.zero_add]
        show _ = x'.cells[j]?
        rw [hx j hj]
        by_cases hc : o ≤ j ∧ j < o + vs.length
        · rw [if_pos hc]
          have := World.cell?_setCells_in g vs o w (fun j hj => (hth j hj).1) (j - o) (by omega)
          rw [show o + (j - o) = j by omega] at this
          rw [this, List.getElem?_eq_getElem]
        · rw [if_neg hc, World.cell?_setCells_out g vs o w _ (fun _ _ => by show j < o ∨ o + vs.length ≤ j; omega)]
          exact h.at0 j hj
      | i + 1 =>
        rw [World.cell?_setCells_out g vs o w _ (fun _ _ => by show 0 + ((i + 1) * 20 + j) < o ∨ o + vs.length ≤ 0 + ((i + 1) * 20 + j); omega)]
        exact h2 (i + 1) hi j hj
theorem row1_of {w : World} {base cap : Nat} {a : Option Addr} {x : HC} {r : List HC} (h : w.ownsRow base 57 20 (.slice a (x :: r).length cap) (x :: r).length (flatC (x :: r))) (hw : ∀ y ∈ x :: r, y.wf) : ∃ g, a = some ⟨g, 0, none⟩ ∧ base ≤ g ∧ Row1 w g cap x r ∧ ∃ cur, w.heap[g]? = some (.cells cur 57 (0, 0)) := by
  have h3 := hcs_own h hw
  obtain ⟨h1, ⟨e, h2⟩ | ⟨g, cap', cur, e, hb, hg, h4⟩⟩ := h
  · simp at h2
  · simp only [Value.slice.injEq] at e
    obtain ⟨rfl, -, rfl⟩ := e
    exact ⟨g, rfl, hb, ⟨h3, fun o => hbfz hg o⟩, cur, hg⟩
theorem setCells_keeps (w : World) (g o : Nat) (vs : List Value) : Keeps (· = g) w (w.setCells g o vs) := by
  have h := World.keptBut_setCells g (may := fun _ => True) vs o w (fun _ _ => trivial)
  induction vs generalizing o w with
  | nil => exact below_keeps (Below.refl _ _) _
  | cons v vs ih => exact (setCell_keeps w g o v).again (ih _ _ (World.keptBut_setCells g (may := fun _ => True) vs (o + 1) _ (fun _ _ => trivial)))
theorem own_keeps {w w' : World} {base e size n p T : Nat} {fr : Nat × Nat} {cs : Array Value} {v : Value} {xs : List Value} (h : w.ownsRow base e size v n xs) (hk : Keeps (· = p) w w') (hp : w.heap[p]? = some (.cells cs T fr)) (hne : T ≠ e) : w'.ownsRow base e size v n xs := by
  have hn := own_ne h hp hne
  obtain ⟨h1, ⟨rfl, h2⟩ | ⟨g, cap, cur, rfl, hb, hg, h3⟩⟩ := h
  · exact ⟨h1, .inl ⟨rfl, h2⟩⟩
  · exact ⟨h1, .inr ⟨g, cap, cur, rfl, hb, (hk.block g (Array.getElem?_eq_some_iff.1 hg).1 (fun c => hn (by rw [show g = p from c]; rfl))).trans hg, h3⟩⟩
theorem own_bel {w w' : World} {base e size n : Nat} {v : Value} {xs : List Value} (h : w.ownsRow base e size v n xs) (hb : Below w.heap.size w w') : w'.ownsRow base e size v n xs := by
  obtain ⟨h1, ⟨rfl, h2⟩ | ⟨g, cap, cur, rfl, hb2, hg, h3⟩⟩ := h
  · exact ⟨h1, .inl ⟨rfl, h2⟩⟩
  · exact ⟨h1, .inr ⟨g, cap, cur, rfl, hb2, (hb.block g (Array.getElem?_eq_some_iff.1 hg).1).trans hg, h3⟩⟩
theorem blk_ne {w : World} {p q T U : Nat} {cs ds : Array Value} {f g : Nat × Nat} (hp : w.heap[p]? = some (.cells cs T f)) (hq : w.heap[q]? = some (.cells ds U g)) (h : T ≠ U) : p ≠ q := fun c => by
  subst c
  have := hp.symm.trans hq
  simp only [Option.some.injEq, Obj.cells.injEq] at this
  exact h this.2.1
theorem x_th (x : HC) (h : x.wf) : ({ x with th := -1 } : HC).wf := ⟨(by decide : (Lit.int .i64 (-1)).wf = true), h.vb, h.ky, h.vl, h.fl, h.ex, h.ui, h.bn, h.fr, h.to, h.ak, h.an, h.ik, h.iv, h.ifl, h.iid, h.idi, h.ige, h.ep, h.pt⟩
theorem x_pt (x : HC) (h : x.wf) : ({ x with pt := x.fr } : HC).wf := ⟨h.th, h.vb, h.ky, h.vl, h.fl, h.ex, h.ui, h.bn, h.fr, h.to, h.ak, h.an, h.ik, h.iv, h.ifl, h.iid, h.idi, h.ige, h.ep, h.fr⟩
theorem c_th (x : HC) : ∀ j, j < 20 → ({ x with th := -1 } : HC).cells[j]? = if 0 ≤ j ∧ j < 0 + [Value.int .i64 (-1)].length then [Value.int .i64 (-1)][j - 0]? else x.cells[j]? := fun j hj => by
  match j, hj with
  | 0, _ => rfl
  | 1, _ | 2, _ | 3, _ | 4, _ | 5, _ | 6, _ | 7, _ | 8, _ | 9, _ | 10, _ | 11, _ | 12, _ | 13, _ | 14, _ | 15, _ | 16, _ | 17, _ | 18, _ | 19, _ => rfl
  | n + 20, h => exact absurd h (by omega)
theorem c_pt (x : HC) : ∀ j, j < 20 → ({ x with pt := x.fr } : HC).cells[j]? = if 19 ≤ j ∧ j < 19 + [Value.int .i64 x.fr].length then [Value.int .i64 x.fr][j - 19]? else x.cells[j]? := fun j hj => by
  match j, hj with
  | 0, _ | 1, _ | 2, _ | 3, _ | 4, _ | 5, _ | 6, _ | 7, _ | 8, _ | 9, _ | 10, _ | 11, _ | 12, _ | 13, _ | 14, _ | 15, _ | 16, _ | 17, _ | 18, _ | 19, _ => rfl
  | n + 20, h => exact absurd h (by omega)
theorem c_all (x y : HC) : ∀ j, j < 20 → x.cells[j]? = if 0 ≤ j ∧ j < 0 + x.cells.length then x.cells[j - 0]? else y.cells[j]? := fun j hj => by
  have hl : x.cells.length = 20 := rfl
  rw [if_pos (by omega)]; rfl
theorem setCells_same {g T : Nat} (vs : List Value) : ∀ (o : Nat) (w : World) {cs : Array Value}, w.heap[g]? = some (.cells cs T (0, 0)) → ∃ cs', (w.setCells g o vs).heap[g]? = some (.cells cs' T (0, 0)) := by
  induction vs with
  | nil => intro o w cs h; exact ⟨cs, h⟩
  | cons v vs ih => intro o w cs h; exact ih (o + 1) _ (setCell_same h o v)
/-- The part in memory, its first call x. -/
structure ZW (w1 w : World) (g1 cap1 : Nat) (x : HC) (r : List HC) (pq px : Nat) (cl : List Value) (a2 : Option Addr) (cap2 : Nat) (dl : List HD) : Prop where
  b : Below w1.heap.size w1 w
  r1 : Row1 w g1 cap1 x r
  z : w.heap[pq]? = some (.cells #[.slice (some ⟨g1, 0, none⟩) (x :: r).length cap1, .slice a2 dl.length cap2] 25 (0, 0))
  d : w.ownsRow w1.heap.size 62 7 (.slice a2 dl.length cap2) dl.length (flatD dl)
  bx : w.heap[px]? = some (.cells cl.toArray 57 (0, 0))
  cu : ∃ cur, w.heap[g1]? = some (.cells cur 57 (0, 0))
  ne : g1 ≠ px
  lo : w1.heap.size ≤ g1
section
variable {w1 w w' : World} {g1 cap1 : Nat} {x : HC} {r : List HC} {pq px : Nat} {cl : List Value} {a2 : Option Addr} {cap2 : Nat} {dl : List HD}
theorem ZW.below (h : ZW w1 w g1 cap1 x r pq px cl a2 cap2 dl) (hb : Below w.heap.size w w') : ZW w1 w' g1 cap1 x r pq px cl a2 cap2 dl := by
  obtain ⟨cur, hc⟩ := h.cu
  exact ⟨h.b.trans (hb.mono h.b.size), h.r1.below hb, (hb.block _ (Array.getElem?_eq_some_iff.1 h.z).1).trans h.z, own_bel h.d hb, (hb.block _ (Array.getElem?_eq_some_iff.1 h.bx).1).trans h.bx, ⟨cur, (hb.block _ (Array.getElem?_eq_some_iff.1 hc).1).trans hc⟩, h.ne, h.lo⟩
theorem ZW.sets (h : ZW w1 w g1 cap1 x r pq px cl a2 cap2 dl) {x' : HC} (o : Nat) (vs : List Value) (ho : o + vs.length ≤ 20) (hx : ∀ j, j < 20 → x'.cells[j]? = if o ≤ j ∧ j < o + vs.length then vs[j - o]? else x.cells[j]?) (hwf : x'.wf) : ZW w1 (w.setCells g1 o vs) g1 cap1 x' r pq px cl a2 cap2 dl := by
  obtain ⟨cur, hc⟩ := h.cu
  have hk := setCells_keeps w g1 o vs
  exact ⟨keeps_below hk h.b h.b.size (fun j hj => by have := h.lo; omega), h.r1.sets o vs ho hx hwf, (hk.block pq (Array.getElem?_eq_some_iff.1 h.z).1 (blk_ne h.z hc (by decide))).trans h.z, own_keeps h.d hk hc (by decide), (hk.block px (Array.getElem?_eq_some_iff.1 h.bx).1 (fun c => h.ne c.symm)).trans h.bx, setCells_same vs o w hc, h.ne, h.lo⟩
theorem ZW.no (h : ZW w1 w g1 cap1 x r pq px cl a2 cap2 dl) (hle : (x :: r).length ≤ 120 ∧ dl.length ≤ 60) (hw : ∀ y ∈ dl, y.wf) (hnw : ¬ Wel (cws (x :: r)) (HD.sts dl)) : Calls Try.prog 14 #[.agg #[.slice (some ⟨g1, 0, none⟩) (x :: r).length cap1, .slice a2 dl.length cap2]] w fun e w' => e = .returned (.bool false) ∧ Below w.heap.size w w' :=
  (well_any ⟨some ⟨g1, 0, none⟩, cap1, x :: r, a2, cap2, dl⟩ w ⟨h.r1.hcs, hds_own h.d hw⟩ hle.1 hle.2).mono fun e w' ⟨g, h1, h2, h3⟩ => ⟨by
    cases g
    · exact h1
    · exact absurd (h3.1 rfl) hnw, h2⟩
end
set_option maxRecDepth 100000 in
set_option maxHeartbeats 8000000 in
theorem part34_any (h : Hst) (o : List Bool) (oa : Option Addr) (oc : Nat) (t : Int) (w : World) (hr : HstRd w h) (ho : BoolRd w oa oc o) :
    Calls Try.prog 4 #[.agg #[.slice h.ca h.cs.length h.cc, .slice h.da h.ds.length h.dc], .slice oa o.length oc, .int .i64 t] w fun e w' => e = .returned (.bool true) ∧ Below w.heap.size w w' := by
  have hB := hballoc w (.cells h.cells 25)
  have z := heap_alloc_new w (.cells h.cells 25)
  have HR := Lib.hid (hr.below hB); have HO := Lib.hid (ho.below hB); have HB := Lib.hid hB; have HZ := Lib.hid z
  have HOM := Lib.hid (Nat.le_trans ho.le ho.most)
  clear hr hB z ho
  go_enter Try.func4, Try.ntmps4
  go_upto_region 1 with (fail)
  change Code.wp _ _ _ _ (w.alloc (.cells h.cells 25))
  obtain ⟨w1, hw1⟩ : ∃ w1, w1 = w.alloc (.cells h.cells 25) := ⟨_, rfl⟩
  rw [← hw1] at HR HB HZ HO ⊢
  clear hw1
  obtain ⟨q, hq⟩ : ∃ q, q = w.heap.size := ⟨_, rfl⟩
  rw [← hq] at HZ ⊢
  have c0 : w1.cell? ⟨q, 0, none⟩ = some (.slice h.ca h.cs.length h.cc) := hblk HZ.out 0
  have c1 : w1.cell? ⟨q, 1, none⟩ = some (.slice h.da h.ds.length h.dc) := hblk HZ.out 1
  have hgr := great34_any h w1 HR.out
  clear hq
  have hq1 := HZ.out
  go_upto_if 20 with (first
    | (go_at_call 6; refine hgr.mono ?_; rintro e w2 ⟨g, rfl, b2, hg⟩; have HWL := Lib.hid (fun hf : g = false => well_any h w2 (HR.out.below b2) (hg hf).1 (hg hf).2); have B2 := Lib.hid b2; have HG := Lib.hid hg; have c0 : w2.cell? ⟨q, 0, none⟩ = some (.slice h.ca h.cs.length h.cc) := hblk ((b2.block _ (Array.getElem?_eq_some_iff.1 hq1).1).trans hq1) 0; have c1 : w2.cell? ⟨q, 1, none⟩ = some (.slice h.da h.ds.length h.dc) := hblk ((b2.block _ (Array.getElem?_eq_some_iff.1 hq1).1).trans hq1) 1; clear b2 hg hgr hq1; cases g)
    | (go_at_call 14; (first | refine (HWL.out trivial).mono ?_ | refine (HWL.out rfl).mono ?_ | refine HWL.out.mono ?_); rintro e w3 ⟨g, rfl, b3, hg⟩; have B3 := Lib.hid (B2.out.trans (b3.mono B2.out.size)); have HW := Lib.hid hg; clear b3 hg; cases g))
  · go_wp2_with (go_at_call 7; refine (lives34 _).mono ?_; rintro e w4 ⟨rfl, b4⟩)
    go_ret
    have h1 := HB.out.trans (B3.out.mono HB.out.size)
    exact ⟨rfl, h1.trans (b4.mono h1.size)⟩
  rotate_left
  · go_wp2_with (go_at_call 7; refine (lives34 _).mono ?_; rintro e w4 ⟨rfl, b4⟩)
    go_ret
    have h1 := HB.out.trans (B2.out.mono HB.out.size)
    exact ⟨rfl, h1.trans (b4.mono h1.size)⟩
  have H12 : Hid (h.cs.length ≤ 120 ∧ h.ds.length ≤ 60) := HG.out trivial
  have HWEL : Hid (Wel (cws h.cs) (HD.sts h.ds)) := HW.out.1 trivial
  clear HG HWL HW c0 c1 B2
  go_upto_region 4 with (fail)
  change Code.wp _ _ _ _ (w3.alloc (.cells #[.slice none 0 0, .slice none 0 0] 25))
  obtain ⟨pq, hpq⟩ : ∃ pq, pq = w3.heap.size := ⟨_, rfl⟩
  have b4 := hballoc w3 (.cells #[.slice none 0 0, .slice none 0 0] 25)
  have z4 := heap_alloc_new w3 (.cells #[.slice none 0 0, .slice none 0 0] 25)
  generalize w3.alloc (.cells #[.slice none 0 0, .slice none 0 0] 25) = w4 at *
  rw [← hpq] at z4 ⊢
  have HPN := Lib.hid (show w1.heap.size ≤ pq by rw [hpq]; exact B3.out.size)
  have HB4 := Lib.hid (B3.out.trans (b4.mono B3.out.size))
  have HP4 := Lib.hid z4
  clear b4 z4 hpq B3
  obtain ⟨i0, hi0, hz0, hz1, hz2⟩ := info_parts3 info_called
  have HI := Lib.hid hi0; have HZ0 := Lib.hid hz0; have HZ1 := Lib.hid hz1; have HZ2 := Lib.hid hz2
  clear hi0 hz0 hz1 hz2
  go_wp2_with fail
  go_loopw [8, 9] (fun v8 i wr => ∃ (k : Nat) (v1 : Value), k ≤ h.cs.length ∧ i = .int .i64 k ∧ v8 = .int .i64 ((ofL (part (outF o) 0 (h.cs.take k)) t).length : Nat) ∧ Hid (wr.heap[pq]? = some (.cells #[v1, .slice none 0 0] 25 (0, 0)) ∧ wr.ownsRow w1.heap.size 57 20 v1 (part (outF o) 0 (h.cs.take k)).length (flatC (part (outF o) 0 (h.cs.take k)))) ∧ Below w1.heap.size w1 wr) (fun _ i _ => h.cs.length - (intOf i).toNat)
  case atStart => exact ⟨0, _, by omega, rfl, rfl, ⟨HP4.out, World.ownsRow_nil _ _ _ _⟩, HB4.out⟩
  case round =>
    obtain ⟨k, v1, hk, rfl, rfl, P, hbw⟩ := hrel
    have HBW := Lib.hid hbw
    obtain ⟨nn, hnn⟩ : ∃ nn : Nat, nn = (ofL (part (outF o) 0 (h.cs.take k)) t).length := ⟨_, rfl⟩
    have hn120 : (nn : Int) ≤ 120 := by
      have h1 := (List.filter_sublist (p := fun x : HC => decide (x.th = t)) (l := part (outF o) 0 (h.cs.take k))).length_le
      have h2 := (part_sub (outF o) 0 (h.cs.take k)).length_le
      rw [List.length_take] at h2
      have h3 := H12.out.1
      unfold ofL at hnn; omega
    rw [← hnn]
    have HNN := Lib.hid hnn
    clear hnn
    have zq := (hbw.block _ (Array.getElem?_eq_some_iff.1 HZ.out).1).trans HZ.out
    have c0 : wr.cell? ⟨q, 0, none⟩ = some (.slice h.ca h.cs.length h.cc) := hblk zq 0
    clear zq
    by_cases hlt : k < h.cs.length
    · have hlt' : (k : Int) < h.cs.length := by omega
      have hk120 : (k : Int) < 120 := by have := H12.out.1; omega
      have HLT := Lib.hid hlt
      obtain ⟨b, off, x, cl, hca, hx, hcl, hsz, h1c, hld1⟩ := HR.out.cs.whole k hlt
      have hld := range_below hld1 hbw
      have q0 : cl.toArray[0]? = some (.int .i64 x.th) := by rw [hcl]; rfl
      have hi20 : (Try.prog.info? 57).map (·.size) = some cl.length := by rw [hsz]; kernel_rfl
      have e0 : wr.cell? ⟨b, off + k * 20, none⟩ = some (.int .i64 x.th) := by have := hld 0 (.int .i64 x.th) (by rw [hcl]; rfl); simpa using this
      have HX := Lib.hid hx; have HCL := Lib.hid hcl; have HSZ := Lib.hid hsz; have H1C := Lib.hid h1c; have HLD := Lib.hid hld; have HLD1 := Lib.hid hld1; have HI20 := Lib.hid hi20
      rw [hca] at c0
      have HCA := Lib.hid hca
      have hpt := part_take (outF o) 0 h.cs k x hx
      rw [Nat.zero_add] at hpt
      have HPT := Lib.hid hpt
      have hob := HO.out.below hbw
      have holen : (o.length : Int) ≤ 9223372036854775807 := by have := HOM.out; unfold maxLen at this; omega
      clear hx hcl hsz h1c hld hld1 hi20 hca hk hbw hlt hpt q0
      go_upto_region 8 with (fail)
      go_cut [39] (fun v39 wx => v39 = .bool (!outF o k) ∧ wx = wr)
      case first =>
        by_cases hk2 : k < o.length
        · have d1 : decide ((o.length : Int) ≤ (k : Int)) = false := decide_eq_false (by omega)
          have d1n : (k : Int) < o.length := by omega
          have d1m : decide (o.length ≤ k) = false := decide_eq_false (by omega)
          rcases hob.cell with hnil | ⟨b2, off2, hoa, hcell2⟩
          · rw [hnil] at hk2; simp at hk2
          · have g1 := hcell2 k hk2
            rw [← outF_at o k hk2] at g1
            subst hoa
            clear hcell2 hk2 hob e0 c0
            go_wp2
            all_goals go_meet
            all_goals exact ⟨by first | rfl | (rw [d1m]; rfl), rfl⟩
        · have d1 : decide ((o.length : Int) ≤ (k : Int)) = true := decide_eq_true (by omega)
          have d1m : decide (o.length ≤ k) = true := decide_eq_true (by omega)
          have d2 := outF_no o k (by omega)
          have D2 := Lib.hid d2
          clear hk2 hob e0 c0 d2
          go_wp2
          all_goals go_meet
          all_goals exact ⟨by rw [D2.out]; first | rfl | (rw [d1m]; rfl), rfl⟩
      case rest =>
        obtain ⟨rfl, hwc⟩ := hcut
        obtain rfl := hwc.symm
        obtain ⟨ob, hobv⟩ : ∃ ob, ob = outF o k := ⟨_, rfl⟩
        rw [← hobv] at HPT ⊢
        clear hobv hob holen
        cases ob
        · rw [if_neg Bool.false_ne_true] at HPT
          obtain ⟨ao, acap, hv1⟩ := own_sl34 P.out.2
          have HV1 := Lib.hid hv1
          have c7 : wr.cell? ⟨pq, 0, none⟩ = some v1 := hblk P.out.1 0
          rw [hv1] at c7
          go_upto_region 9 with (fail)
          have y7 := fun st : ExtW wr => st.cell c7
          have y0 := fun st : ExtW wr => st.cell c0
          have HE0 := Lib.hid e0
          clear c7 c0 e0
          refine wp_region_mix (D := fun W => ∃ s : ExtW wr, W = s.val) [0, 1, 2, 3, 4, 5, 6] [7] 8 [9, 10] (by kernel_rfl) (by kernel_rfl) (by kernel_rfl) (by kernel_rfl) (by decide) (by kernel_rfl) (by kernel_rfl) (fun c d v a w h => by cases d <;> exact h) ⟨⟨_, (Below.refl _ _).drew⟩, rfl⟩ ?_
          simp only [pickL_cons, pickL_nil, List.drop_succ_cons, List.drop_zero, List.take_succ_cons, List.take_zero, List.cons_append, List.nil_append]
          iterate 6 (go_big_quiet_step (fail))
          refine wpQuiet_mid rfl 57 (.tmp 45) rfl b (off + k * 20) rfl cl _ (fun w hw => by obtain ⟨⟨W2, hW⟩, rfl⟩ := hw; exact range_below HLD.out hW) Try.underlying57 rfl HI20.out ?_
          go_frame
          refine wpQuiet_nil ?_
          refine tailM_op rfl rfl ?_
          refine wp_buildSlice 22 57 1 #[(0, .tmp 46)] rfl cl.toArray i0 _ Try.underlying22 HI.out HZ0.out (by rw [HZ1.out]; decide) (by rw [HZ1.out]; decide) ?hf ?_
          case hf =>
            rw [HZ1.out]
            simp only [List.map_toArray, List.map_cons, List.map_nil]
            refine fill_one _ cl 20 HSZ.out ?_
            simp
          refine ⟨⟨⟨_, ((Below.refl _ _).drew).alloc (Nat.le_refl _) _⟩, rfl⟩, ?_⟩
          simp only [List.getElem_toArray, List.getElem_cons_succ, List.getElem_cons_zero]
          go_frame
          change tailE Try.prog _ _ [8, 9, 10] _ _
          have hlen1 : (part (outF o) 0 (h.cs.take k)).length ≤ 120 := by
            have h1 := (part_sub (outF o) 0 (h.cs.take k)).length_le
            rw [List.length_take] at h1; have := H12.out.1; omega
          refine tailE_op rfl rfl ?_
          refine wp_append_lies _ (.tmp 41) (.tmp 47) 22 rfl w1.heap.size 57 i0 _ 20 192 Try.underlying22 HI.out HZ0.out HZ1.out HZ2.out rfl (by decide) v1 _ _ (by rw [HV1.out]; rfl) ((P.out.2.drew).alloc _) ⟨wr.drew.heap.size, 0, none⟩ 1 1 cl rfl (by rw [HSZ.out]) (by have h1 := World.news_of_block (fr := (0, 0)) (t := 57) (cs := cl.toArray) (heap_alloc_new wr.drew _); simpa using h1) (fun u hu => (Array.all_eq_true_iff_forall_mem.1 H1C.out) u (by simpa using hu)) (by decide) (by unfold maxLen; omega) (by omega) (by have h1 := HBW.out.size; simp; omega) _ rfl ?_
          intro g cap w5 hown hgrow hat hlt5
          simp only [List.getElem_toArray, List.getElem_cons_succ, List.getElem_cons_zero]
          go_frame
          have HO5 := Lib.hid hown; have HG5 := Lib.hid hgrow
          clear hown hgrow hat hlt5
          refine tailE_op rfl rfl ?_
          go_simp
          have HW5 := Lib.hid (HBW.out.drew.alloc (o := .cells cl.toArray 57) HBW.out.size)
          have hq4 : (wr.drew.alloc (.cells cl.toArray 57)).heap[pq]? = some (.cells #[v1, .slice none 0 0] 25 (0, 0)) := ((hballoc wr.drew _).block _ (Array.getElem?_eq_some_iff.1 P.out.1).1).trans P.out.1
          have hown4 := (P.out.2.drew).alloc (.cells cl.toArray 57)
          have hq5 := (HG5.out.block pq (Array.getElem?_eq_some_iff.1 hq4).1 (fun c => own_ne hown4 hq4 (by decide) c.symm)).trans hq4
          have s0 : w5.cell? ⟨pq, 0, none⟩ = some v1 := hblk hq5 0
          have s1 : w5.frozen? ⟨pq, 0, none⟩ = false := hbfz hq5 0
          have HQ5 := Lib.hid hq5
          have hb5 : Below w1.heap.size w1 w5 := HW5.out.grown HG5.out (by have := HBW.out.size; simp; omega) (fun j hj => (hown4.lt j hj).1)
          have HB5 := Lib.hid hb5
          clear hq4 hown4 hq5 hb5
          rw [HV1.out] at s0
          refine tailE_op rfl rfl ?_
          go_simp
          have HP6 := Lib.hid (setCell_same HQ5.out 0 (.slice (some ⟨g, 0, none⟩) ((part (outF o) 0 (h.cs.take k)).length + 1) cap))
          have hk6 := setCell_keeps w5 pq 0 (.slice (some ⟨g, 0, none⟩) ((part (outF o) 0 (h.cs.take k)).length + 1) cap)
          have HO6 := Lib.hid (own_set HO5.out HQ5.out (by decide) 0 (.slice (some ⟨g, 0, none⟩) ((part (outF o) 0 (h.cs.take k)).length + 1) cap))
          have HB6 := Lib.hid (keeps_below hk6 HB5.out HB5.out.size (fun j hj => by have := HPN.out; omega))
          clear s0 s1 hk6 HO5 HQ5
          change Exit.then _ _ Exit.normal _ (w5.setCell _ _)
          generalize w5.setCell ⟨pq, 0, none⟩ (.slice (some ⟨g, 0, none⟩) ((part (outF o) 0 (h.cs.take k)).length + 1) cap) = w6 at *
          have zq6 := (HB6.out.block _ (Array.getElem?_eq_some_iff.1 HZ.out).1).trans HZ.out
          have c0 : w6.cell? ⟨q, 0, none⟩ = some (.slice (some ⟨b, off, none⟩) h.cs.length h.cc) := by rw [← HCA.out]; exact hblk zq6 0
          have e0 : w6.cell? ⟨b, off + k * 20, none⟩ = some (.int .i64 x.th) := by have := range_below HLD1.out HB6.out 0 (.int .i64 x.th) (by rw [HCL.out]; rfl); simpa using this
          have Q : Hid (w6.heap[pq]? = some (.cells #[.slice (some ⟨g, 0, none⟩) ((part (outF o) 0 (h.cs.take k)).length + 1) cap, .slice none 0 0] 25 (0, 0)) ∧ w6.ownsRow w1.heap.size 57 20 (.slice (some ⟨g, 0, none⟩) ((part (outF o) 0 (h.cs.take k)).length + 1) cap) (part (outF o) 0 (h.cs.take (k + 1))).length (flatC (part (outF o) 0 (h.cs.take (k + 1))))) := by
            refine ⟨HP6.out, ?_⟩
            rw [HPT.out, flatC_snoc, List.length_append, ← HCL.out]; exact HO6.out
          have hct := ofL_snoc (part (outF o) 0 (h.cs.take k)) x t
          rw [← HPT.out] at hct
          have HCT := Lib.hid hct
          clear zq6 hct HP6 HO6 y7 y0
          by_cases ht : x.th = t
          · have hte : (x.th == t) = true := beq_iff_eq.2 ht
            have HC : Hid ((ofL (part (outF o) 0 (h.cs.take (k + 1))) t).length = nn + 1) := by show _ = _; rw [HCT.out, if_pos ht, HNN.out]; simp
            clear ht HCT
            go_wp2_with fail
            go_roundw
            case rel => exact ⟨k + 1, _, HLT.out, by go_num, by rw [HC.out]; go_num, Q.out, HB6.out⟩
            case measure => have := HLT.out; simp [intOf]; omega
          · have hte : (x.th == t) = false := beq_eq_false_iff_ne.2 ht
            have HC : Hid ((ofL (part (outF o) 0 (h.cs.take (k + 1))) t).length = nn) := by show _ = _; rw [HCT.out, if_neg ht, HNN.out]
            clear ht HCT
            go_wp2_with fail
            go_roundw
            case rel => exact ⟨k + 1, _, HLT.out, by go_num, by rw [HC.out], Q.out, HB6.out⟩
            case measure => have := HLT.out; simp [intOf]; omega
        · rw [if_pos rfl] at HPT
          clear e0 c0
          go_wp2_with fail
          go_roundw
          case rel => exact ⟨k + 1, v1, HLT.out, by go_num, by rw [HPT.out, ← HNN.out], by rw [HPT.out]; exact P, HBW.out⟩
          case measure => have := HLT.out; simp [intOf]; omega
    · obtain rfl : k = h.cs.length := by omega
      rw [List.take_length] at P HNN
      obtain ⟨pl, hpl⟩ : ∃ pl, pl = part (outF o) 0 h.cs := ⟨_, rfl⟩
      rw [← hpl] at P HNN
      have HPL := Lib.hid hpl
      obtain ⟨j0, hj0, jz0, jz1, jz2⟩ := info_parts3 info_drop
      have JI := Lib.hid hj0; have JZ0 := Lib.hid jz0; have JZ1 := Lib.hid jz1; have JZ2 := Lib.hid jz2
      clear hj0 jz0 jz1 jz2 hpl hlt hk hbw
      go_wp2_with fail
      clear c0
      go_loopw [10, 11] (fun i10 i11 wr => ∃ (k : Nat) (v2 : Value), k ≤ h.ds.length ∧ i10 = .int .i64 k ∧ Hid (wr.heap[pq]? = some (.cells #[v1, v2] 25 (0, 0)) ∧ wr.ownsRow w1.heap.size 57 20 v1 pl.length (flatC pl) ∧ wr.ownsRow w1.heap.size 62 7 v2 (part (outF o) h.cs.length (h.ds.take k)).length (flatD (part (outF o) h.cs.length (h.ds.take k)))) ∧ Below w1.heap.size w1 wr) (fun i10 _ _ => h.ds.length - (intOf i10).toNat)
      case atStart => exact ⟨0, _, by omega, rfl, ⟨P.out.1, P.out.2, World.ownsRow_nil _ _ _ _⟩, HBW.out⟩
      case round =>
        clear P HBW
        obtain ⟨k, v2, hk, rfl, P, hbw⟩ := hrel
        have HBW := Lib.hid hbw
        have zq := (hbw.block _ (Array.getElem?_eq_some_iff.1 HZ.out).1).trans HZ.out
        have c0 : wr.cell? ⟨q, 0, none⟩ = some (.slice h.ca h.cs.length h.cc) := hblk zq 0
        have c1 : wr.cell? ⟨q, 1, none⟩ = some (.slice h.da h.ds.length h.dc) := hblk zq 1
        clear zq
        by_cases hlt : k < h.ds.length
        · have hlt' : (k : Int) < h.ds.length := by omega
          have hk60 : (k : Int) < 60 := by have := H12.out.2; omega
          have hcs120 : (h.cs.length : Int) ≤ 120 := by have := H12.out.1; omega
          have HLT := Lib.hid hlt
          obtain ⟨b, off, x, cl, hca, hx, hcl, hsz, h1c, hld1⟩ := HR.out.ds.whole k hlt
          have hld := range_below hld1 hbw
          have hi20 : (Try.prog.info? 62).map (·.size) = some cl.length := by rw [hsz]; kernel_rfl
          have HX := Lib.hid hx; have HCL := Lib.hid hcl; have HSZ := Lib.hid hsz; have H1C := Lib.hid h1c; have HLD := Lib.hid hld; have HI20 := Lib.hid hi20
          rw [hca] at c1
          have HCA := Lib.hid hca
          have hpt := part_take (outF o) h.cs.length h.ds k x hx
          obtain ⟨m, hm⟩ : ∃ m : Nat, m = h.cs.length + k := ⟨_, rfl⟩
          rw [← hm] at hpt
          have HPT := Lib.hid hpt
          have hmz : ((h.cs.length : Int) + (k : Int)) = (m : Int) := by omega
          have hwm : wrap64 ((h.cs.length : Int) + (k : Int)) = (m : Int) := by rw [hmz]; exact IntWalk.wrap64_in _ (by omega)
          have hm180 : (m : Int) ≤ 180 := by omega
          have hob := HO.out.below hbw
          have holen : (o.length : Int) ≤ 9223372036854775807 := by have := HOM.out; unfold maxLen at this; omega
          have HMZ := Lib.hid hmz
          clear hx hcl hsz h1c hld hld1 hi20 hca hk hbw hlt hpt hm hmz hwm
          go_upto_region 16 with (fail)
          rw [HMZ.out]
          go_cut [82] (fun v82 wx => v82 = .bool (!outF o m) ∧ wx = wr)
          case first =>
            by_cases hk2 : m < o.length
            · have d1 : decide ((o.length : Int) ≤ (m : Int)) = false := decide_eq_false (by omega)
              have d1n : (m : Int) < o.length := by omega
              have d1m : decide (o.length ≤ m) = false := decide_eq_false (by omega)
              rcases hob.cell with hnil | ⟨b2, off2, hoa, hcell2⟩
              · rw [hnil] at hk2; simp at hk2
              · have g1 := hcell2 m hk2
                rw [← outF_at o m hk2] at g1
                subst hoa
                clear hcell2 hk2 hob c0 c1
                go_wp2
                all_goals go_meet
                all_goals exact ⟨by first | rfl | (rw [d1m]; rfl), rfl⟩
            · have d1 : decide ((o.length : Int) ≤ (m : Int)) = true := decide_eq_true (by omega)
              have d1m : decide (o.length ≤ m) = true := decide_eq_true (by omega)
              have d2 := outF_no o m (by omega)
              have D2 := Lib.hid d2
              clear hk2 hob c0 c1 d2
              go_wp2
              all_goals go_meet
              all_goals exact ⟨by rw [D2.out]; first | rfl | (rw [d1m]; rfl), rfl⟩
          case rest =>
            obtain ⟨rfl, hwc⟩ := hcut
            obtain rfl := hwc.symm
            obtain ⟨ob, hobv⟩ : ∃ ob, ob = outF o m := ⟨_, rfl⟩
            rw [← hobv] at HPT ⊢
            clear hobv hob holen hwc
            cases ob
            · rw [if_neg Bool.false_ne_true] at HPT
              obtain ⟨ao, acap, hv1⟩ := own_sl34 P.out.2.2
              have HV1 := Lib.hid hv1
              have c7 : wr.cell? ⟨pq, 1, none⟩ = some v2 := hblk P.out.1 1
              rw [hv1] at c7
              go_upto_region 17 with (fail)
              have y7 := fun st : ExtW wr => st.cell c7
              have y0 := fun st : ExtW wr => st.cell c1
              clear c7 c0 c1
              refine wp_region_mix (D := fun W => ∃ s : ExtW wr, W = s.val) [0, 1, 2, 3, 4, 5, 6] [7] 8 [9, 10] (by kernel_rfl) (by kernel_rfl) (by kernel_rfl) (by kernel_rfl) (by decide) (by kernel_rfl) (by kernel_rfl) (fun c d v a w h => by cases d <;> exact h) ⟨⟨_, (Below.refl _ _).drew⟩, rfl⟩ ?_
              simp only [pickL_cons, pickL_nil, List.drop_succ_cons, List.drop_zero, List.take_succ_cons, List.take_zero, List.cons_append, List.nil_append]
              iterate 6 (go_big_quiet_step (fail))
              refine wpQuiet_mid rfl 62 (.tmp 88) rfl b (off + k * 7) rfl cl _ (fun w hw => by obtain ⟨⟨W2, hW⟩, rfl⟩ := hw; exact range_below HLD.out hW) Try.underlying62 rfl HI20.out ?_
              go_frame
              refine wpQuiet_nil ?_
              refine tailM_op rfl rfl ?_
              refine wp_buildSlice 23 62 1 #[(0, .tmp 89)] rfl cl.toArray j0 _ Try.underlying23 JI.out JZ0.out (by rw [JZ1.out]; decide) (by rw [JZ1.out]; decide) ?hf ?_
              case hf =>
                rw [JZ1.out]
                simp only [List.map_toArray, List.map_cons, List.map_nil]
                refine fill_one _ cl 7 HSZ.out ?_
                simp
              refine ⟨⟨⟨_, ((Below.refl _ _).drew).alloc (Nat.le_refl _) _⟩, rfl⟩, ?_⟩
              simp only [List.getElem_toArray, List.getElem_cons_succ, List.getElem_cons_zero]
              go_frame
              change tailE Try.prog _ _ [8, 9, 10] _ _
              have hlen1 : (part (outF o) h.cs.length (h.ds.take k)).length ≤ 60 := by
                have h1 := (part_sub (outF o) h.cs.length (h.ds.take k)).length_le
                rw [List.length_take] at h1; have := H12.out.2; omega
              refine tailE_op rfl rfl ?_
              refine wp_append_lies _ (.tmp 84) (.tmp 90) 23 rfl w1.heap.size 62 j0 _ 7 72 Try.underlying23 JI.out JZ0.out JZ1.out JZ2.out rfl (by decide) v2 _ _ (by rw [HV1.out]; rfl) ((P.out.2.2.drew).alloc _) ⟨wr.drew.heap.size, 0, none⟩ 1 1 cl rfl (by rw [HSZ.out]) (by have h1 := World.news_of_block (fr := (0, 0)) (t := 62) (cs := cl.toArray) (heap_alloc_new wr.drew _); simpa using h1) (fun u hu => (Array.all_eq_true_iff_forall_mem.1 H1C.out) u (by simpa using hu)) (by decide) (by unfold maxLen; omega) (by omega) (by have h1 := HBW.out.size; simp; omega) _ rfl ?_
              intro g cap w5 hown hgrow hat hlt5
              simp only [List.getElem_toArray, List.getElem_cons_succ, List.getElem_cons_zero]
              go_frame
              have HO5 := Lib.hid hown; have HG5 := Lib.hid hgrow
              clear hown hgrow hat hlt5
              refine tailE_op rfl rfl ?_
              go_simp
              have HW5 := Lib.hid (HBW.out.drew.alloc (o := .cells cl.toArray 62) HBW.out.size)
              have hq4 : (wr.drew.alloc (.cells cl.toArray 62)).heap[pq]? = some (.cells #[v1, v2] 25 (0, 0)) := ((hballoc wr.drew _).block _ (Array.getElem?_eq_some_iff.1 P.out.1).1).trans P.out.1
              have hown4 := (P.out.2.2.drew).alloc (.cells cl.toArray 62)
              have hcal4 := (P.out.2.1.drew).alloc (.cells cl.toArray 62)
              have hq5 := (HG5.out.block pq (Array.getElem?_eq_some_iff.1 hq4).1 (fun c => own_ne hown4 hq4 (by decide) c.symm)).trans hq4
              have HC5 := Lib.hid (own_grow hcal4 hown4 HG5.out (by decide))
              have s0 : w5.cell? ⟨pq, 1, none⟩ = some v2 := hblk hq5 1
              have s1 : w5.frozen? ⟨pq, 1, none⟩ = false := hbfz hq5 1
              have HQ5 := Lib.hid hq5
              have hb5 : Below w1.heap.size w1 w5 := HW5.out.grown HG5.out (by have := HBW.out.size; simp; omega) (fun j hj => (hown4.lt j hj).1)
              have HB5 := Lib.hid hb5
              clear hq4 hown4 hcal4 hq5 hb5
              rw [HV1.out] at s0
              refine tailE_op rfl rfl ?_
              go_simp
              have HP6 := Lib.hid (setCell_same HQ5.out 1 (.slice (some ⟨g, 0, none⟩) ((part (outF o) h.cs.length (h.ds.take k)).length + 1) cap))
              have hk6 := setCell_keeps w5 pq 1 (.slice (some ⟨g, 0, none⟩) ((part (outF o) h.cs.length (h.ds.take k)).length + 1) cap)
              have HO6 := Lib.hid (own_set HO5.out HQ5.out (by decide) 1 (.slice (some ⟨g, 0, none⟩) ((part (outF o) h.cs.length (h.ds.take k)).length + 1) cap))
              have HC6 := Lib.hid (own_set HC5.out HQ5.out (by decide) 1 (.slice (some ⟨g, 0, none⟩) ((part (outF o) h.cs.length (h.ds.take k)).length + 1) cap))
              have HB6 := Lib.hid (keeps_below hk6 HB5.out HB5.out.size (fun j hj => by have := HPN.out; omega))
              clear s0 s1 hk6 HO5 HC5 HQ5
              unfold tailE
              generalize w5.setCell ⟨pq, 1, none⟩ (.slice (some ⟨g, 0, none⟩) ((part (outF o) h.cs.length (h.ds.take k)).length + 1) cap) = w6 at *
              have Q : Hid (w6.heap[pq]? = some (.cells #[v1, .slice (some ⟨g, 0, none⟩) ((part (outF o) h.cs.length (h.ds.take k)).length + 1) cap] 25 (0, 0)) ∧ w6.ownsRow w1.heap.size 57 20 v1 pl.length (flatC pl) ∧ w6.ownsRow w1.heap.size 62 7 (.slice (some ⟨g, 0, none⟩) ((part (outF o) h.cs.length (h.ds.take k)).length + 1) cap) (part (outF o) h.cs.length (h.ds.take (k + 1))).length (flatD (part (outF o) h.cs.length (h.ds.take (k + 1))))) := by
                refine ⟨HP6.out, HC6.out, ?_⟩
                rw [HPT.out, flatD_snoc, List.length_append, ← HCL.out]; exact HO6.out
              clear HP6 HO6 y7 y0
              go_wp2_with fail
              go_roundw
              case rel => exact ⟨k + 1, _, HLT.out, by go_num, Q.out, HB6.out⟩
              case measure => have := HLT.out; simp [intOf]; omega
            · rw [if_pos rfl] at HPT
              clear c0 c1
              go_wp2_with fail
              go_roundw
              case rel => exact ⟨k + 1, v2, HLT.out, by go_num, by rw [HPT.out]; exact P, HBW.out⟩
              case measure => have := HLT.out; simp [intOf]; omega
        · obtain rfl : k = h.ds.length := by omega
          rw [List.take_length] at P
          obtain ⟨dl, hdl⟩ : ∃ dl, dl = part (outF o) h.cs.length h.ds := ⟨_, rfl⟩
          rw [← hdl] at P
          have HDL := Lib.hid hdl
          clear hdl hlt hk hbw
          obtain ⟨a1, cap1, hv1⟩ := own_sl34 P.out.2.1
          obtain ⟨a2, cap2, hv2⟩ := own_sl34 P.out.2.2
          subst hv1 hv2
          have hsub : pl.Sublist h.cs := by rw [HPL.out]; exact part_sub _ _ _
          have hdsub : dl.Sublist h.ds := by rw [HDL.out]; exact part_sub _ _ _
          have hwfc : ∀ x ∈ pl, x.wf := fun x hx => HR.out.cs.wf x (hsub.subset hx)
          have hwfd : ∀ x ∈ dl, x.wf := fun x hx => HR.out.ds.wf x (hdsub.subset hx)
          have hpl120 : pl.length ≤ 120 := Nat.le_trans hsub.length_le H12.out.1
          have hdl60 : dl.length ≤ 60 := Nat.le_trans hdsub.length_le H12.out.2
          have hwel : Wel (cws pl) (HD.sts dl) := wel_sub HWEL.out hsub (hdsub.map _)
          have HWF := Lib.hid (And.intro hwfc hwfd)
          have HLE := Lib.hid (And.intro hpl120 hdl60)
          have rd : HstRd wr ⟨a1, cap1, pl, a2, cap2, dl⟩ := ⟨hcs_own P.out.2.1 hwfc, hds_own P.out.2.2 hwfd⟩
          have hwl : Calls Try.prog 14 #[.agg #[.slice a1 pl.length cap1, .slice a2 dl.length cap2]] wr fun e w' => e = .returned (.bool true) ∧ Below wr.heap.size wr w' :=
            (well_any ⟨a1, cap1, pl, a2, cap2, dl⟩ wr rd hpl120 hdl60).mono fun e w' ⟨g, h1, h2, h3⟩ => ⟨by
              cases g
              · exact absurd (h3.2 hwel) (by decide)
              · exact h1, h2⟩
          have hof : Hid (∀ w7, Below wr.heap.size wr w7 → Calls Try.prog 12 #[.agg #[.slice a1 pl.length cap1, .slice a2 dl.length cap2], .int .i64 t] w7 fun e w' => ∃ g, e = .returned (.slice g nn nn) ∧ Below w7.heap.size w7 w') := fun w7 b7 =>
            (of34_any ⟨a1, cap1, pl, a2, cap2, dl⟩ t w7 (rd.below b7) hpl120).mono fun e w' ⟨g, cap, h1, _, h2⟩ => ⟨g, by rw [HNN.out]; exact h1, h2⟩
          have p0 : wr.cell? ⟨pq, 0, none⟩ = some (.slice a1 pl.length cap1) := hblk P.out.1 0
          have p1 : wr.cell? ⟨pq, 1, none⟩ = some (.slice a2 dl.length cap2) := hblk P.out.1 1
          clear hsub hdsub hwfc hwfd hwel rd hpl120 hdl60 c0 HDL
          have HW1 := Lib.hid hwl
          clear hwl
          go_upto_region 18 with (fail)
          have hwl := HW1.out
          clear c1
          go_upto_region 20 with (first
            | (go_at_call 14; refine hwl.mono ?_; rintro e w7 ⟨rfl, b7⟩; have hoc := hof.out w7 b7; have B7 := Lib.hid b7; have z7 := (b7.block _ (Array.getElem?_eq_some_iff.1 P.out.1).1).trans P.out.1; clear p0 p1; have p0 : w7.cell? ⟨pq, 0, none⟩ = some (.slice a1 pl.length cap1) := hblk z7 0; have p1 : w7.cell? ⟨pq, 1, none⟩ = some (.slice a2 dl.length cap2) := hblk z7 1; clear b7 z7 hwl)
            | (go_at_call 12; refine hoc.mono ?_; rintro e w8 ⟨g8, rfl, b8⟩; have B8 := Lib.hid (B7.out.trans (b8.mono B7.out.size)); clear b8 hoc hof p0 p1))
          have HB8 := Lib.hid (HBW.out.trans (B8.out.mono HBW.out.size))
          have z8 := (B8.out.block _ (Array.getElem?_eq_some_iff.1 P.out.1).1).trans P.out.1
          have HD8 := Lib.hid (own_bel P.out.2.2 B8.out)
          have HC8 := Lib.hid (own_bel P.out.2.1 B8.out)
          have HZ8 := Lib.hid z8
          clear z8 P HBW B8 B7
          cases pl with
          | nil =>
            have p0 : w8.cell? ⟨pq, 0, none⟩ = some (.slice a1 0 cap1) := hblk HZ8.out 0
            go_wp2_with (go_at_call 7; refine (lives34 _).mono ?_; rintro e w30 ⟨rfl, b30⟩)
            go_ret
            have h1 := HB.out.trans (HB8.out.mono HB.out.size)
            exact ⟨rfl, h1.trans (b30.mono h1.size)⟩
          | cons x r =>
            obtain ⟨g1, rfl, hg1, hr8, cur8, hcur8⟩ := row1_of HC8.out HWF.out.1
            obtain ⟨nl, hnl⟩ : ∃ nl, nl = (x :: r).length := ⟨_, rfl⟩
            have hnl0 : ((nl : Int) == 0) = false := beq_eq_false_iff_ne.2 (by rw [hnl]; simp only [List.length_cons]; omega)
            have hnlp : (0 : Int) < nl := by rw [hnl]; simp only [List.length_cons]; omega
            have hnl120 : (nl : Int) ≤ 120 := by have := HLE.out.1; omega
            have p0 : w8.cell? ⟨pq, 0, none⟩ = some (.slice (some ⟨g1, 0, none⟩) nl cap1) := by rw [hnl]; exact hblk HZ8.out 0
            obtain ⟨cl, hcl⟩ : ∃ cl, cl = x.cells := ⟨_, rfl⟩
            have hxw : x.wf := HWF.out.1 x (by simp)
            have hi20 : (Try.prog.info? 57).map (·.size) = some cl.length := by rw [hcl]; kernel_rfl
            have hrg : w8.rangeAt g1 0 cl := by rw [hcl]; exact hr8.range
            have hone : cl.toArray.all (·.oneCell') = true := by rw [hcl]; exact HC.one x
            have HI20 := Lib.hid hi20; have HRG := Lib.hid hrg; have HONE := Lib.hid hone; have HCLX := Lib.hid hcl; have HR8 := Lib.hid hr8; have HG1 := Lib.hid hg1; have HCU8 := Lib.hid hcur8; have HXW := Lib.hid hxw; have HNL := Lib.hid hnl
            have HL20 := Lib.hid (show cl.length = 20 by rw [hcl]; rfl)
            clear hi20 hrg hone hcl hr8 hg1 hcur8 hxw hnl
            go_upto_region 23 with (first
              | (refine wpList_load_mid rfl 57 (.tmp 111) rfl g1 0 rfl cl _ HRG.out Try.underlying57 rfl HI20.out ?_)
              | (refine wpList_store_new rfl 57 (.tmp 12) (.tmp 112) rfl w8 _ cl.toArray rfl rfl HI20.out (by simp [HL20.out]) HONE.out ?_))
            go_frame
            obtain ⟨px, hpx⟩ : ∃ px, px = w8.heap.size := ⟨_, rfl⟩
            have b9 := hballoc w8 (.cells cl.toArray 57)
            have z9 := heap_alloc_new w8 (.cells cl.toArray 57)
            rw [← hpx] at z9 ⊢
            have ZW9 : Hid (ZW w1 (w8.alloc (.cells cl.toArray 57)) g1 cap1 x r pq px cl a2 cap2 dl) := ⟨HB8.out.trans (b9.mono HB8.out.size), HR8.out.below b9, (b9.block _ (Array.getElem?_eq_some_iff.1 HZ8.out).1).trans HZ8.out, own_bel HD8.out b9, z9, ⟨cur8, (b9.block _ (Array.getElem?_eq_some_iff.1 HCU8.out).1).trans HCU8.out⟩, by rw [hpx]; exact Nat.ne_of_lt HR8.out.lt, HG1.out⟩
            clear b9 z9 hpx HB8 HR8 HZ8 HD8 HCU8 HC8 HRG
            generalize w8.alloc (.cells cl.toArray 57) = w9 at *
            have p0 : w9.cell? ⟨pq, 0, none⟩ = some (.slice (some ⟨g1, 0, none⟩) nl cap1) := by rw [HNL.out]; exact hblk ZW9.out.z 0
            have s0 : w9.cell? ⟨g1, 0, none⟩ = some (.int .i64 x.th) := (ZW9.out.r1.at0 0 (by decide)).trans rfl
            have s1 := ZW9.out.r1.frz 0
            go_upto_region 24 with (fail)
            have ZW10 := Lib.hid (ZW9.out.sets (x' := { x with th := -1 }) 0 [.int .i64 (-1)] (by decide) (c_th x) (x_th x HXW.out))
            change Code.wp _ _ _ _ (w9.setCells g1 0 [.int .i64 (-1)])
            clear ZW9 p0 s0 s1
            generalize w9.setCells g1 0 [.int .i64 (-1)] = w10 at *
            have p0 : w10.cell? ⟨pq, 0, none⟩ = some (.slice (some ⟨g1, 0, none⟩) nl cap1) := by rw [HNL.out]; exact hblk ZW10.out.z 0
            have p1 : w10.cell? ⟨pq, 1, none⟩ = some (.slice a2 dl.length cap2) := hblk ZW10.out.z 1
            have hno := ZW10.out.no HLE.out HWF.out.2 (no_th _ _ _ rfl)
            rw [show (({ x with th := -1 } : HC) :: r).length = nl by rw [HNL.out]; rfl] at hno
            go_upto_region 25 with (go_at_call 14; refine hno.mono ?_; rintro e w11 ⟨rfl, b11⟩; have ZW11 := Lib.hid (ZW10.out.below b11); clear b11 hno p0 p1 ZW10)
            have p0 : w11.cell? ⟨pq, 0, none⟩ = some (.slice (some ⟨g1, 0, none⟩) nl cap1) := by rw [HNL.out]; exact hblk ZW11.out.z 0
            have HRX : Hid (w11.rangeAt px 0 cl) := fun j v hv => by rw [Nat.zero_add, hblk ZW11.out.bx, List.getElem?_toArray]; exact hv
            have HTH := Lib.hid (ZW11.out.r1.there 0 cl.toArray.size (by rw [List.size_toArray, HL20.out]; decide))
            go_upto_region 26 with (first
              | (refine wpList_load_mid rfl 57 (.tmp 12) rfl px 0 rfl cl _ HRX.out Try.underlying57 rfl HI20.out ?_)
              | (refine wpList_store_mid rfl 57 (.tmp 122) (.tmp 121) rfl g1 0 cl.toArray rfl rfl HTH.out HI20.out HONE.out ?_))
            go_frame
            have ZW12 := Lib.hid (ZW11.out.sets (x' := x) 0 x.cells (Nat.le_refl 20) (c_all x _) HXW.out)
            rw [← HCLX.out] at ZW12
            change Code.wp _ _ _ _ (w11.setCells g1 0 cl)
            clear ZW11 HRX HTH p0
            generalize w11.setCells g1 0 cl = w12 at *
            have p0 : w12.cell? ⟨pq, 0, none⟩ = some (.slice (some ⟨g1, 0, none⟩) nl cap1) := by rw [HNL.out]; exact hblk ZW12.out.z 0
            have s8 : w12.cell? ⟨px, 8, none⟩ = some (.int .i64 x.fr) := by rw [hblk ZW12.out.bx, HCLX.out]; rfl
            have s0 : w12.cell? ⟨g1, 19, none⟩ = some (.int .i64 x.pt) := (ZW12.out.r1.at0 19 (by decide)).trans rfl
            have s1 := ZW12.out.r1.frz 19
            go_upto_region 27 with (fail)
            have ZW13 := Lib.hid (ZW12.out.sets (x' := { x with pt := x.fr }) 19 [.int .i64 x.fr] (Nat.le_refl 20) (c_pt x) (x_pt x HXW.out))
            change Code.wp _ _ _ _ (w12.setCells g1 19 [.int .i64 x.fr])
            clear ZW12 p0 s0 s1 s8
            generalize w12.setCells g1 19 [.int .i64 x.fr] = w13 at *
            have p0 : w13.cell? ⟨pq, 0, none⟩ = some (.slice (some ⟨g1, 0, none⟩) nl cap1) := by rw [HNL.out]; exact hblk ZW13.out.z 0
            have p1 : w13.cell? ⟨pq, 1, none⟩ = some (.slice a2 dl.length cap2) := hblk ZW13.out.z 1
            have hno := ZW13.out.no HLE.out HWF.out.2 (no_pt _ _ _ rfl)
            rw [show (({ x with pt := x.fr } : HC) :: r).length = nl by rw [HNL.out]; rfl] at hno
            go_wp2_with (first
              | (go_at_call 14; refine hno.mono ?_; rintro e w14 ⟨rfl, b14⟩; have ZW14 := Lib.hid (ZW13.out.below b14); clear b14 hno p0 p1)
              | (go_at_call 7; refine (lives34 _).mono ?_; rintro e w30 ⟨rfl, b30⟩))
            go_ret
            have h1 := HB.out.trans (ZW14.out.b.mono HB.out.size)
            exact ⟨rfl, h1.trans (b30.mono h1.size)⟩
set_option maxRecDepth 100000 in
theorem walkHistsPart {H1 : Type} (w : World) (enc : TypeId × Value → H1) (base : Nat) (v : Value) (d : DataW H1) (p : List MemPlace) (k : DataW.Trod enc Try.prog w 0 (fun _ => true) true 25 v d p) (o : Value.okWide Try.prog w .any base 25 v)
    (enc2 : TypeId × Value → H1) (base2 : Nat) (v2 : Value) (d2 : DataW H1) (p2 : List MemPlace) (k2 : DataW.Trod enc2 Try.prog w 0 (fun _ => true) true 60 v2 d2 p2) (o2 : Value.okWide Try.prog w .any base2 60 v2) (n : Int) (hn : (Lit.int .i64 n).wf = true) :
    Calls Try.prog 4 #[v, v2, .int .i64 n] w fun e w' => e = .returned (.bool true) ∧ Below w.heap.size w w' := by
  obtain ⟨h, rfl, hr⟩ := hst_open k o
  obtain ⟨a0, n0, cap0, rfl⟩ := Go.WideShapes.okWide_slice Try.underlying60 o2
  obtain ⟨l, a, cap, hv, hl⟩ := bools_of (opened leaves_bools k2).1
  rw [hv]
  exact part34_any h l a cap n w hr hl
end Go.Proofs.Ytmagpbbjjkmbpaa
