/-
  Texts of this prover, merged: PutsNil, PutsVoid.
-/
import Derived.Test.YtddflihgadlafaaGreatM5
import Derived.Test.YtddflihgadlafaaGreatM2
import Derived.Test.YtddflihgadlafaaGreatOpen
import Derived.Deep.DeepCutAuto
import Derived.Deep.CutBlock
/-
  Puts: what is not there, what is over, what has no world.
-/
namespace Go.Proofs.YtddflihgadlafaaGreat
open Go.RowKit Go.Maps
set_option linter.unusedVariables false

theorem pover_nil (w : World) : Calls Tryz.prog 30 #[.pointer none] w fun e w' => e = .returned (.bool true) ∧ Below w.heap.size w w' := by
  go_enter Tryz.func30, Tryz.ntmps30
  go_wp2_with fail
  refine wp_region_ext (by kernel_rfl) (by kernel_rfl) ?_
  repeat (go_big_quiet_step (fail))
  refine wpQuiet_nil ?_
  rintro W ⟨⟨W2, hW⟩, rfl⟩
  go_wp2
  go_ret
  exact ⟨rfl, hW⟩
theorem oover_nil (w : World) : Calls Tryz.prog 32 #[.pointer none] w fun e w' => e = .returned (.bool true) ∧ Below w.heap.size w w' := by
  go_enter Tryz.func32, Tryz.ntmps32
  go_wp2_with fail
  refine wp_region_ext (by kernel_rfl) (by kernel_rfl) ?_
  repeat (go_big_quiet_step (fail))
  refine wpQuiet_nil ?_
  rintro W ⟨⟨W2, hW⟩, rfl⟩
  go_wp2
  go_ret
  exact ⟨rfl, hW⟩
theorem gone_nil (w : World) : Calls Tryz.prog 34 #[.pointer none] w fun e w' => e = .returned (.bool false) ∧ w' = w := by
  go_enter Tryz.func34, Tryz.ntmps34
  go_wp2
  go_ret
  exact ⟨rfl, rfl⟩
theorem gone_not {w : World} {b : Nat} {σ : SL} {rest : List Value} (hS : SlotAt w b 78 σ rest) (h : σ.tg = 0 ∨ σ.ln = 0) : Calls Tryz.prog 34 #[.pointer (some ⟨b, 0, none⟩)] w fun e w' => e = .returned (.bool false) ∧ w' = w := by
  have c0 := hS.c0; have c4 := hS.c4
  clear hS
  by_cases hz : σ.tg = 0
  · rw [hz] at c0
    clear h hz
    go_enter Tryz.func34, Tryz.ntmps34
    go_wp2
    go_ret
    exact ⟨rfl, rfl⟩
  · rw [h.resolve_left hz] at c4
    have hz' : (σ.tg != 0) = true := bne_iff_ne.2 hz
    clear h hz
    go_enter Tryz.func34, Tryz.ntmps34
    go_wp2
    go_ret
    exact ⟨rfl, rfl⟩
/-- A Put that is over, or none; an Out likewise. -/
def VPut (w : World) (v : Value) : Prop := v = .pointer none ∨ ∃ b σ rest, v = .pointer (some ⟨b, 0, none⟩) ∧ SlotAt w b 75 σ rest ∧ σ.tg = 0
def VOut (w : World) (v : Value) : Prop := v = .pointer none ∨ ∃ b σ rest, v = .pointer (some ⟨b, 0, none⟩) ∧ SlotAt w b 78 σ rest ∧ σ.tg = 0
theorem VPut.fr {K : TypeId → Bool} {mp : Bool} {w w' : World} {v : Value} (h : VPut w v) (hf : Fr K mp w w') (h1 : K 75 = false) : VPut w' v := by
  rcases h with rfl | ⟨b, σ, rest, rfl, h, hz⟩
  · exact .inl rfl
  · exact .inr ⟨b, σ, rest, rfl, hf.cells _ _ _ _ h h1, hz⟩
theorem VOut.fr {K : TypeId → Bool} {mp : Bool} {w w' : World} {v : Value} (h : VOut w v) (hf : Fr K mp w w') (h1 : K 78 = false) : VOut w' v := by
  rcases h with rfl | ⟨b, σ, rest, rfl, h, hz⟩
  · exact .inl rfl
  · exact .inr ⟨b, σ, rest, rfl, hf.cells _ _ _ _ h h1, hz⟩
theorem VPut.below {w w' : World} {v : Value} (h : VPut w v) (hb : Below w.heap.size w w') : VPut w' v := h.fr (below_fr hb (fun _ => false) false) rfl
theorem VOut.below {w w' : World} {v : Value} (h : VOut w v) (hb : Below w.heap.size w w') : VOut w' v := h.fr (below_fr hb (fun _ => false) false) rfl
theorem VPut.over {w : World} {v : Value} (h : VPut w v) : Calls Tryz.prog 30 #[v] w fun e w' => e = .returned (.bool true) ∧ Below w.heap.size w w' := by
  rcases h with rfl | ⟨b, σ, rest, rfl, h, hz⟩
  · exact pover_nil w
  · exact Putover h true (σ.ln == 3) (by rw [hz]; rfl) rfl
theorem VOut.over {w : World} {v : Value} (h : VOut w v) : Calls Tryz.prog 32 #[v] w fun e w' => e = .returned (.bool true) ∧ Below w.heap.size w w' := by
  rcases h with rfl | ⟨b, σ, rest, rfl, h, hz⟩
  · exact oover_nil w
  · exact Outover h true (σ.ln == 3) (by rw [hz]; rfl) rfl
theorem VOut.gone {w : World} {v : Value} (h : VOut w v) : Calls Tryz.prog 34 #[v] w fun e w' => e = .returned (.bool false) ∧ w' = w := by
  rcases h with rfl | ⟨b, σ, rest, rfl, h, hz⟩
  · exact gone_nil w
  · exact gone_not h (.inl hz)
theorem VPut.step {w : World} {v : Value} (u : Value) (h : VPut w v) : Calls Tryz.prog 31 #[v, u] w fun e w' => e = .returned (.bool true) ∧ Below w.heap.size w w' := by
  have ho := h.over
  have H := Lib.hid h
  clear h
  go_enter Tryz.func31, Tryz.ntmps31
  go_upto_region 4 with (go_at_call 30; refine ho.mono ?_; rintro e w1 ⟨rfl, b1⟩; have HB := Lib.hid b1; have ho2 := (H.out.below b1).over; clear b1 ho)
  go_wp2_with (go_at_call 30; refine ho2.mono ?_; rintro e w2 ⟨rfl, b2⟩)
  go_ret
  exact ⟨rfl, HB.out.trans (b2.mono HB.out.size)⟩
theorem VOut.step {w : World} {v : Value} (u : Value) (h : VOut w v) : Calls Tryz.prog 33 #[v, u] w fun e w' => e = .returned (.bool true) ∧ Below w.heap.size w w' := by
  have ho := h.over
  have H := Lib.hid h
  clear h
  go_enter Tryz.func33, Tryz.ntmps33
  go_upto_region 4 with (go_at_call 32; refine ho.mono ?_; rintro e w1 ⟨rfl, b1⟩; have HB := Lib.hid b1; have ho2 := (H.out.below b1).over; clear b1 ho)
  go_wp2_with (go_at_call 32; refine ho2.mono ?_; rintro e w2 ⟨rfl, b2⟩)
  go_ret
  exact ⟨rfl, HB.out.trans (b2.mono HB.out.size)⟩
theorem pstep_no {w : World} {b : Nat} {σ : SL} {rest : List Value} (h : SlotAt w b 75 σ rest) (h0 : (σ.tg == 0) = false) (h4 : (σ.ln == 3) = false) : Calls Tryz.prog 31 #[.pointer (some ⟨b, 0, none⟩), .pointer none] w fun e w' => e = .returned (.bool false) ∧ Below w.heap.size w w' := by
  have ho := Putover h false false h0 h4
  have H := Lib.hid h; have H0 := Lib.hid h0; have H4 := Lib.hid h4
  clear h h0 h4
  go_enter Tryz.func31, Tryz.ntmps31
  go_upto_region 4 with (go_at_call 30; refine ho.mono ?_; rintro e w1 ⟨rfl, b1⟩; have HB := Lib.hid b1; have ho2 := Putover (H.out.below b1) false false H0.out H4.out; clear b1 ho)
  go_wp2_with (go_at_call 30; refine ho2.mono ?_; rintro e w2 ⟨rfl, b2⟩)
  go_ret
  exact ⟨rfl, HB.out.trans (b2.mono HB.out.size)⟩
theorem ostep_no {w : World} {b : Nat} {σ : SL} {rest : List Value} (h : SlotAt w b 78 σ rest) (h0 : (σ.tg == 0) = false) (h4 : (σ.ln == 3) = false) : Calls Tryz.prog 33 #[.pointer (some ⟨b, 0, none⟩), .pointer none] w fun e w' => e = .returned (.bool false) ∧ Below w.heap.size w w' := by
  have ho := Outover h false false h0 h4
  have H := Lib.hid h; have H0 := Lib.hid h0; have H4 := Lib.hid h4
  clear h h0 h4
  go_enter Tryz.func33, Tryz.ntmps33
  go_upto_region 4 with (go_at_call 32; refine ho.mono ?_; rintro e w1 ⟨rfl, b1⟩; have HB := Lib.hid b1; have ho2 := Outover (H.out.below b1) false false H0.out H4.out; clear b1 ho)
  go_wp2_with (go_at_call 32; refine ho2.mono ?_; rintro e w2 ⟨rfl, b2⟩)
  go_ret
  exact ⟨rfl, HB.out.trans (b2.mono HB.out.size)⟩
theorem newput_out (b u s g r : Int) (h : g < 1 ∨ 255 < g ∨ r < 1) (w : World) : Calls Tryz.prog 27 #[.agg #[.int .i64 b, .int .i64 u, .int .i64 s], .int .i64 g, .int .i64 r] w
    fun e w' => ∃ q, e = .returned (.pointer (some ⟨q, 0, none⟩)) ∧ VPut w' (.pointer (some ⟨q, 0, none⟩)) ∧ Below w.heap.size w w' := by
  have hb := below_alloc w (.cells #[.int .i64 b, .int .i64 u, .int .i64 s] 43)
  have e : (w.alloc (.cells #[.int .i64 b, .int .i64 u, .int .i64 s] 43)).heap.size = w.heap.size + 1 := by simp
  have fin : VPut ((w.alloc (.cells #[.int .i64 b, .int .i64 u, .int .i64 s] 43)).alloc (.cells #[.int .u64 0, .int .u64 0, .int .i64 0, .int .u64 0, .int .i64 0, .int .i64 0, .int .i64 0] 75)) (.pointer (some ⟨w.heap.size + 1, 0, none⟩)) ∧ Below w.heap.size w ((w.alloc (.cells #[.int .i64 b, .int .i64 u, .int .i64 s] 43)).alloc (.cells #[.int .u64 0, .int .u64 0, .int .i64 0, .int .u64 0, .int .i64 0, .int .i64 0, .int .i64 0] 75)) :=
    ⟨.inr ⟨_, ⟨0, 0, 0, 0, 0⟩, [.int .i64 0, .int .i64 0], rfl, heap_alloc_at _ _ e.symm, rfl⟩, hb.trans ((below_alloc _ _).mono hb.size)⟩
  have F := Lib.hid fin
  clear fin e hb
  by_cases h1 : g < 1
  · have d1 : decide (g < 1) = true := decide_eq_true h1
    clear h h1
    go_enter Tryz.func27, Tryz.ntmps27
    go_wp2
    go_ret
    exact ⟨w.heap.size + 1, rfl, F.out.1, F.out.2⟩
  have d1 : decide (g < 1) = false := decide_eq_false h1
  by_cases h2 : 255 < g
  · have d2 : decide (255 < g) = true := decide_eq_true h2
    clear h h1 h2
    go_enter Tryz.func27, Tryz.ntmps27
    go_wp2
    go_ret
    exact ⟨w.heap.size + 1, rfl, F.out.1, F.out.2⟩
  have d2 : decide (255 < g) = false := decide_eq_false h2
  have d3 : decide (r < 1) = true := decide_eq_true ((h.resolve_left h1).resolve_left h2)
  clear h h1 h2
  go_enter Tryz.func27, Tryz.ntmps27
  go_wp2
  go_ret
  exact ⟨w.heap.size + 1, rfl, F.out.1, F.out.2⟩
theorem sof_out {b u s : Int} (h : itemA b u s = 0) : (sof b u s).tg = 0 := by unfold sof; rw [if_pos h]
end Go.Proofs.YtddflihgadlafaaGreat

/-
  PutsVoid: the walk.
-/
namespace Go.Proofs.YtddflihgadlafaaGreat
open Go.RowKit Go.Maps
set_option linter.unusedVariables false

theorem pput_w (T : TypeId) (h : wrTy T = true) : (T == 71) = false := by
  cases hT : (T == 71)
  · rfl
  · rw [beq_iff_eq] at hT; subst hT; cases h
theorem pout_w (T : TypeId) (h : wrTy T = true) : (T == 76) = false := by
  cases hT : (T == 76)
  · rfl
  · rw [beq_iff_eq] at hT; subst hT; cases h
theorem info_pput : (Tryz.prog.info? 71).map (fun i => (i.zero, i.size, i.bytes)) = some (some (.pointer none), 1, 8) := by kernel_rfl
theorem info_pout : (Tryz.prog.info? 76).map (fun i => (i.zero, i.size, i.bytes)) = some (some (.pointer none), 1, 8) := by kernel_rfl
theorem Pr.fr {K : TypeId → Bool} {w0 w w' : World} {B R : WB} {V : WV} {s : CS} {x : RS} (h : Pr w0 w B R V s x) (hf : Fr K false w w') (hK : ∀ T, wrTy T = true → K T = false) (hB : Below w0.heap.size w0 w') : Pr w0 w' B R V s x :=
  ⟨h.ws.fr hf (fun T hT => hK T (by unfold wrTy; rw [hT]; rfl)) hB, h.rd.fr hf (fun T hT => hK T (by unfold wrTy; rw [hT]; simp)) hB, h.al⟩
structure PVS (w1 wx : World) (B R : WB) (V : WV) (s : CS) (x : RS) (q pa ab : Nat) (b u sl : Int) (n m : Nat) (vi vo : Value) : Prop where
  ins : ∃ xs, wx.ownsRow w1.heap.size 71 1 vi n xs ∧ ∀ y ∈ xs, VPut wx y
  outs : ∃ xs, wx.ownsRow w1.heap.size 76 1 vo m xs ∧ ∀ y ∈ xs, VOut wx y
  pr : Pr w1 wx B R V s x
  pq : wx.heap[q]? = some (.cells #[.pointer (some ⟨B.wb, 0, none⟩), .pointer (some ⟨R.wb, 0, none⟩)] 34 (0, 0))
  pa : wx.heap[pa]? = some (.cells #[.int .i64 b, .int .i64 u, .int .i64 sl] 43 (0, 0))
  ab : wx.heap[ab]? = some (.cells #[.int .i64 2, .int .i64 3, .int .i64 1] 43 (0, 0))
section
variable {w1 wx wy w8 w11 : World} {B R : WB} {V : WV} {s : CS} {x : RS} {q pa ab : Nat} {b u sl : Int} {n m : Nat} {vi vo : Value}
theorem PVS.below (h : PVS w1 wx B R V s x q pa ab b u sl n m vi vo) (hb : Below wx.heap.size wx wy) : PVS w1 wy B R V s x q pa ab b u sl n m vi vo := by
  obtain ⟨xs, h1, h2⟩ := h.ins
  obtain ⟨ys, h3, h4⟩ := h.outs
  have k := fun {k : Nat} {o : Obj} (hk : wx.heap[k]? = some o) => (hb.block _ (Array.getElem?_eq_some_iff.1 hk).1).trans hk
  exact ⟨⟨xs, own_fr h1 (below_fr hb (fun _ => false) false) rfl, fun y hy => (h2 y hy).below hb⟩, ⟨ys, own_fr h3 (below_fr hb (fun _ => false) false) rfl, fun y hy => (h4 y hy).below hb⟩, h.pr.keep hb, k h.pq, k h.pa, k h.ab⟩
theorem PVS.push_in {xs : List Value} {v v' : Value} {ad : Obj} (h : PVS w1 wx B R V s x q pa ab b u sl n m vi vo) (h1 : wx.ownsRow w1.heap.size 71 1 vi n xs) (h2 : ∀ y ∈ xs, VPut wx y) (hb : Below wx.heap.size wx w8) (hv : VPut w8 v)
    (hown : w11.ownsRow w1.heap.size 71 1 v' (n + 1) (xs ++ [v])) (hg : (w8.alloc ad).grownBy w11 vi.ownBlock) : PVS w1 w11 B R V s x q pa ab b u sl (n + 1) m v' vo := by
  have hb10 := below_alloc w8 ad
  have hB : Below wx.heap.size wx (w8.alloc ad) := hb.trans (hb10.mono hb.size)
  have hold := own_fr h1 (below_fr hB (fun _ => false) false) rfl
  have hgr := grown_ty hold hg
  have hf : Fr (fun T => T == 71) false wx w11 := (below_fr hB _ _).trans hgr
  have hs := h.pr.ws.below.size
  have hB2 : Below w1.heap.size w1 w11 := grown_below hold hg (h.pr.ws.below.trans (hB.mono hs)) (Nat.le_trans hs hB.size) (Nat.le_refl _)
  obtain ⟨ys, h3, h4⟩ := h.outs
  refine ⟨⟨_, hown, fun y hy => ?_⟩, ⟨ys, own_fr h3 hf rfl, fun y hy => (h4 y hy).fr hf rfl⟩, h.pr.fr hf pput_w hB2, hf.cells _ _ _ _ h.pq rfl, hf.cells _ _ _ _ h.pa rfl, hf.cells _ _ _ _ h.ab rfl⟩
  rcases List.mem_append.1 hy with hy | hy
  · exact (h2 y hy).fr hf rfl
  · simp only [List.mem_cons, List.not_mem_nil, or_false] at hy
    subst hy
    exact (hv.below hb10).fr hgr rfl
theorem PVS.push_out {xs : List Value} {v v' : Value} {ad : Obj} (h : PVS w1 wx B R V s x q pa ab b u sl n m vi vo) (h1 : wx.ownsRow w1.heap.size 76 1 vo m xs) (h2 : ∀ y ∈ xs, VOut wx y) (hb : Below wx.heap.size wx w8) (hv : VOut w8 v)
    (hown : w11.ownsRow w1.heap.size 76 1 v' (m + 1) (xs ++ [v])) (hg : (w8.alloc ad).grownBy w11 vo.ownBlock) : PVS w1 w11 B R V s x q pa ab b u sl n (m + 1) vi v' := by
  have hb10 := below_alloc w8 ad
  have hB : Below wx.heap.size wx (w8.alloc ad) := hb.trans (hb10.mono hb.size)
  have hold := own_fr h1 (below_fr hB (fun _ => false) false) rfl
  have hgr := grown_ty hold hg
  have hf : Fr (fun T => T == 76) false wx w11 := (below_fr hB _ _).trans hgr
  have hs := h.pr.ws.below.size
  have hB2 : Below w1.heap.size w1 w11 := grown_below hold hg (h.pr.ws.below.trans (hB.mono hs)) (Nat.le_trans hs hB.size) (Nat.le_refl _)
  obtain ⟨ys, h3, h4⟩ := h.ins
  refine ⟨⟨ys, own_fr h3 hf rfl, fun y hy => (h4 y hy).fr hf rfl⟩, ⟨_, hown, fun y hy => ?_⟩, h.pr.fr hf pout_w hB2, hf.cells _ _ _ _ h.pq rfl, hf.cells _ _ _ _ h.pa rfl, hf.cells _ _ _ _ h.ab rfl⟩
  rcases List.mem_append.1 hy with hy | hy
  · exact (h2 y hy).fr hf rfl
  · simp only [List.mem_cons, List.not_mem_nil, or_false] at hy
    subst hy
    exact (hv.below hb10).fr hgr rfl
end
theorem ctrue {a b : Bool} (h : a = b) : Value.bool a = .bool b := by rw [h]
set_option maxRecDepth 10000 in
set_option maxHeartbeats 8000000 in
theorem pvoid_any (b u sl : Int) (hsl : (Lit.int .i64 sl).wf = true) (g r : Int) (w : World) : Calls Tryz.prog 5 #[.agg #[.int .i64 b, .int .i64 u, .int .i64 sl], .int .i64 g, .int .i64 r] w fun e w' => e = .returned (.bool true) ∧ Below w.heap.size w w' := by
  have hb0 := below_alloc w (.cells #[.int .i64 b, .int .i64 u, .int .i64 sl] 43)
  have hz0 := heap_alloc_new w (.cells #[.int .i64 b, .int .i64 u, .int .i64 sl] 43)
  have HB0 := Lib.hid hb0; have HZ0 := Lib.hid hz0; have HSL := Lib.hid hsl
  clear hb0 hz0 hsl
  go_enter Tryz.func5, Tryz.ntmps5
  go_upto_region 1 with (fail)
  change Code.wp _ _ _ _ (w.alloc (.cells #[.int .i64 b, .int .i64 u, .int .i64 sl] 43))
  generalize w.alloc (.cells #[.int .i64 b, .int .i64 u, .int .i64 sl] 43) = w1 at *
  have HS0 : Hid (w.heap.size < w1.heap.size) := (Array.getElem?_eq_some_iff.1 HZ0.out).1
  generalize hpa : w.heap.size = pa at *
  have HPA := Lib.hid hpa
  clear hpa
  go_upto_region 2 with (go_at_call 13; refine (begin_zero w1).mono ?_; rintro e w3 ⟨B, R, V, s, x, rfl, hpr, hV, hfar, -, -⟩; have HPR := Lib.hid hpr; have HFAR := Lib.hid hfar; have HV : Hid (V.its = [] ∧ V.nts = []) := ⟨by rw [hV]; rfl, by rw [hV]; rfl⟩; clear hpr hV hfar)
  have hq0 := heap_alloc_new w3 (.cells #[.pointer (some ⟨B.wb, 0, none⟩), .pointer (some ⟨R.wb, 0, none⟩)] 34)
  have hB4 := below_alloc w3 (.cells #[.pointer (some ⟨B.wb, 0, none⟩), .pointer (some ⟨R.wb, 0, none⟩)] 34)
  have HP4 := Lib.hid (HPR.out.keep hB4)
  change Code.wp _ _ _ _ (w3.alloc (.cells #[.pointer (some ⟨B.wb, 0, none⟩), .pointer (some ⟨R.wb, 0, none⟩)] 34))
  generalize w3.alloc (.cells #[.pointer (some ⟨B.wb, 0, none⟩), .pointer (some ⟨R.wb, 0, none⟩)] 34) = w4 at *
  generalize w3.heap.size = q at *
  have HQ4 := Lib.hid hq0
  clear hq0 hB4 HPR
  go_upto_region 3 with (fail)
  have hb5 := below_alloc w4 (.cells #[.int .u64 0, .int .u64 0, .int .i64 0, .int .u64 0, .int .i64 0, .int .i64 0, .int .i64 0] 75)
  have hv5 : VPut (w4.alloc (.cells #[.int .u64 0, .int .u64 0, .int .i64 0, .int .u64 0, .int .i64 0, .int .i64 0, .int .i64 0] 75)) (.pointer (some ⟨w4.heap.size, 0, none⟩)) := .inr ⟨_, ⟨0, 0, 0, 0, 0⟩, [.int .i64 0, .int .i64 0], rfl, heap_alloc_new w4 _, rfl⟩
  have HP5 := Lib.hid (HP4.out.keep hb5)
  have HQ5 := Lib.hid ((hb5.block _ (Array.getElem?_eq_some_iff.1 HQ4.out).1).trans HQ4.out)
  have HV5 := Lib.hid hv5
  change Code.wp _ _ _ _ (w4.alloc (.cells #[.int .u64 0, .int .u64 0, .int .i64 0, .int .u64 0, .int .i64 0, .int .i64 0, .int .i64 0] 75))
  generalize w4.alloc (.cells #[.int .u64 0, .int .u64 0, .int .i64 0, .int .u64 0, .int .i64 0, .int .i64 0, .int .i64 0] 75) = w5 at *
  generalize w4.heap.size = pb at *
  clear hb5 hv5 HP4 HQ4
  go_upto_region 4 with (fail)
  have hb6 := below_alloc w5 (.cells #[.int .u64 0, .int .u64 0, .int .i64 0, .int .u64 0, .int .i64 0] 78)
  have hv6 : VOut (w5.alloc (.cells #[.int .u64 0, .int .u64 0, .int .i64 0, .int .u64 0, .int .i64 0] 78)) (.pointer (some ⟨w5.heap.size, 0, none⟩)) := .inr ⟨_, ⟨0, 0, 0, 0, 0⟩, [], rfl, heap_alloc_new w5 _, rfl⟩
  have HP6 := Lib.hid (HP5.out.keep hb6)
  have HQ6 := Lib.hid ((hb6.block _ (Array.getElem?_eq_some_iff.1 HQ5.out).1).trans HQ5.out)
  have HV6 := Lib.hid (HV5.out.below hb6); have HO6 := Lib.hid hv6
  change Code.wp _ _ _ _ (w5.alloc (.cells #[.int .u64 0, .int .u64 0, .int .i64 0, .int .u64 0, .int .i64 0] 78))
  generalize w5.alloc (.cells #[.int .u64 0, .int .u64 0, .int .i64 0, .int .u64 0, .int .i64 0] 78) = w6 at *
  generalize w5.heap.size = ob at *
  clear hb6 hv6 HP5 HQ5 HV5
  go_upto_region 5 with (fail)
  have hb7 := below_alloc w6 (.cells #[.pointer (some ⟨pb, 0, none⟩), .pointer none] 71)
  have HR7 := Lib.hid (own_lit w6 w1.heap.size 71 [.pointer (some ⟨pb, 0, none⟩), .pointer none] HP6.out.ws.below.size (by unfold maxLen; simp))
  have HP7 := Lib.hid (HP6.out.keep hb7)
  have HQ7 := Lib.hid ((hb7.block _ (Array.getElem?_eq_some_iff.1 HQ6.out).1).trans HQ6.out)
  have HV7 := Lib.hid (HV6.out.below hb7); have HO7 := Lib.hid (HO6.out.below hb7)
  change Code.wp _ _ _ _ (w6.alloc (.cells #[.pointer (some ⟨pb, 0, none⟩), .pointer none] 71))
  have HR7 : Hid ((w6.alloc (.cells #[.pointer (some ⟨pb, 0, none⟩), .pointer none] 71)).ownsRow w1.heap.size 71 1 (.slice (some ⟨w6.heap.size, 0, none⟩) 2 2) 2 [.pointer (some ⟨pb, 0, none⟩), .pointer none]) := HR7.out
  generalize w6.alloc (.cells #[.pointer (some ⟨pb, 0, none⟩), .pointer none] 71) = w7 at *
  generalize w6.heap.size = gi at *
  clear hb7 HP6 HQ6 HV6 HO6
  go_upto_region 6 with (fail)
  have hb8 := below_alloc w7 (.cells #[.pointer (some ⟨ob, 0, none⟩), .pointer none] 76)
  have HRO := Lib.hid (own_lit w7 w1.heap.size 76 [.pointer (some ⟨ob, 0, none⟩), .pointer none] HP7.out.ws.below.size (by unfold maxLen; simp))
  have HP8 := Lib.hid (HP7.out.keep hb8)
  have HQ8 := Lib.hid ((hb8.block _ (Array.getElem?_eq_some_iff.1 HQ7.out).1).trans HQ7.out)
  have HV8 := Lib.hid (HV7.out.below hb8); have HO8 := Lib.hid (HO7.out.below hb8)
  have HR8 := Lib.hid (own_fr HR7.out (below_fr hb8 (fun _ => false) false) rfl)
  change Code.wp _ _ _ _ (w7.alloc (.cells #[.pointer (some ⟨ob, 0, none⟩), .pointer none] 76))
  have HRO : Hid ((w7.alloc (.cells #[.pointer (some ⟨ob, 0, none⟩), .pointer none] 76)).ownsRow w1.heap.size 76 1 (.slice (some ⟨w7.heap.size, 0, none⟩) 2 2) 2 [.pointer (some ⟨ob, 0, none⟩), .pointer none]) := HRO.out
  generalize w7.alloc (.cells #[.pointer (some ⟨ob, 0, none⟩), .pointer none] 76) = w8 at *
  generalize w7.heap.size = go at *
  clear hb8 HP7 HQ7 HV7 HO7 HR7
  go_upto_region 7 with (fail)
  have hb9 := below_alloc w8 (.cells #[.int .i64 2, .int .i64 3, .int .i64 1] 43)
  have HS9 : Hid (PVS w1 (w8.alloc (.cells #[.int .i64 2, .int .i64 3, .int .i64 1] 43)) B R V s x q pa w8.heap.size b u sl 2 2 (.slice (some ⟨gi, 0, none⟩) 2 2) (.slice (some ⟨go, 0, none⟩) 2 2)) :=
    ⟨⟨_, own_fr HR8.out (below_fr hb9 (fun _ => false) false) rfl, fun y hy => by
        simp only [List.mem_cons, List.not_mem_nil, or_false] at hy
        rcases hy with rfl | rfl
        · exact HV8.out.below hb9
        · exact .inl rfl⟩, ⟨_, own_fr HRO.out (below_fr hb9 (fun _ => false) false) rfl, fun y hy => by
        simp only [List.mem_cons, List.not_mem_nil, or_false] at hy
        rcases hy with rfl | rfl
        · exact HO8.out.below hb9
        · exact .inl rfl⟩, HP8.out.keep hb9, (hb9.block _ (Array.getElem?_eq_some_iff.1 HQ8.out).1).trans HQ8.out,
      ((HP8.out.keep hb9).ws.below.block _ HS0.out).trans HZ0.out, heap_alloc_new w8 _⟩
  change Code.wp _ _ _ _ (w8.alloc (.cells #[.int .i64 2, .int .i64 3, .int .i64 1] 43))
  generalize w8.alloc (.cells #[.int .i64 2, .int .i64 3, .int .i64 1] 43) = w9 at *
  generalize w8.heap.size = ab at *
  clear hb9 HP8 HQ8 HV8 HO8 HR8 HRO
  obtain ⟨i0, hi0, hz0, hz1, hz2⟩ := info_parts info_pput
  have HI := Lib.hid hi0; have HZA := Lib.hid hz0; have HZB := Lib.hid hz1; have HZC := Lib.hid hz2
  clear hi0 hz0 hz1 hz2
  obtain ⟨i1, hi0, hz0, hz1, hz2⟩ := info_parts info_pout
  have HJ := Lib.hid hi0; have HYA := Lib.hid hz0; have HYB := Lib.hid hz1; have HYC := Lib.hid hz2
  clear hi0 hz0 hz1 hz2
  go_cut [38] (fun v wx => v = .bool (decide (g < 1) || decide (255 < g)) ∧ wx = w9)
  case first =>
    cases h1 : decide (g < 1)
    · go_wp2_with fail
      go_meet
      case rel => exact ⟨by rw [h1]; rfl, rfl⟩
    · go_wp2_with fail
      go_meet
      case rel => exact ⟨by rw [h1]; rfl, rfl⟩
  case rest =>
  obtain ⟨rfl, hwc⟩ := hcut
  obtain rfl := hwc.symm
  go_upto_if 38 with (fail)
  go_cut [12] (fun v wx => ∃ n, n ≤ 3 ∧ PVS w1 wx B R V s x q pa ab b u sl n 2 v (.slice (some ⟨go, 0, none⟩) 2 2))
  case first =>
    cases hb : (decide (g < 1) || decide (255 < g))
    · clear hb
      go_wp2_with fail
      go_meet
      case rel => exact ⟨2, by omega, HS9.out⟩
    · have hout : g < 1 ∨ 255 < g ∨ (1 : Int) < 1 := by
        rcases Bool.or_eq_true _ _ ▸ hb with h | h
        · exact .inl (of_decide_eq_true h)
        · exact .inr (.inl (of_decide_eq_true h))
      clear hb
      have hnp := newput_out 2 3 1 g 1 hout w9
      have hab := HS9.out.ab
      have z0 := hcell hab 0; have z1 := hcell hab 1; have z2 := hcell hab 2
      obtain ⟨xs, hrow, hvm⟩ := HS9.out.ins
      have HROW := Lib.hid hrow; have HVM := Lib.hid hvm
      clear hrow hvm hab
      go_wp2_with (first
        | (go_at_call 27; refine hnp.mono ?_; intro e w8 hh; obtain ⟨qn, hh1, hv8, hb8⟩ := hh; subst hh1; have HB8 := Lib.hid hb8; have HN8 := Lib.hid hv8; have hr8 := own_fr HROW.out (below_fr hb8 (fun _ => false) false) rfl; clear hnp hb8 hv8 z0 z1 z2)
        | (at_builtin; refine wpList_append_own _ rfl _ _ 79 rfl w1.heap.size 71 i0 (.pointer none) 1 8 Tryz.underlying79 HI.out HZA.out HZB.out HZC.out rfl (by decide) _ _ _ rfl (hr8.alloc _) ⟨_, 0, none⟩ 1 1 [.pointer (some ⟨qn, 0, none⟩)] rfl rfl ?c1 ?c2 ?c3 ?c4 ?c5 ?_))
      case c1 => exact news_one _ _ _ _ rfl
      case c2 => simp [Value.oneCell']
      case c3 => unfold maxLen; omega
      case c4 => omega
      case c5 => have h1 := HB8.out.size; have h2 := HS9.out.pr.ws.below.size; simp; omega
      intro v' w11 hown' hgrow _
      have HREL := Lib.hid (HS9.out.push_in HROW.out HVM.out HB8.out HN8.out hown' hgrow)
      clear hown' hgrow hr8
      go_wp2_with fail
      go_meet
      case rel => exact ⟨3, by omega, HREL.out⟩
  case rest =>
  clear HS9
  obtain ⟨n3, hn3, hs⟩ := hcut
  obtain ⟨a12, cap12, rfl⟩ : ∃ a cap, u12 = .slice a n3 cap := by obtain ⟨xs, h, _⟩ := hs.ins; exact own_sl2 h
  have HS := Lib.hid hs
  clear hs
  generalize wc = wA at *
  go_upto_if 46 with (fail)
  go_cut [12] (fun v wx => ∃ n, n ≤ 4 ∧ PVS w1 wx B R V s x q pa ab b u sl n 2 v (.slice (some ⟨go, 0, none⟩) 2 2))
  case first =>
    by_cases hr : r < 1
    · have d1 : decide (r < 1) = true := decide_eq_true hr
      have hnp := newput_out 2 3 1 1 r (.inr (.inr hr)) wA
      have hab := HS.out.ab
      clear hr
      rw [d1]
      have z0 := hcell hab 0; have z1 := hcell hab 1; have z2 := hcell hab 2
      obtain ⟨xs, hrow, hvm⟩ := HS.out.ins
      have HROW := Lib.hid hrow; have HVM := Lib.hid hvm
      clear hrow hvm hab
      go_wp2_with (first
        | (go_at_call 27; refine hnp.mono ?_; intro e w8 hh; obtain ⟨qn, hh1, hv8, hb8⟩ := hh; subst hh1; have HB8 := Lib.hid hb8; have HN8 := Lib.hid hv8; have hr8 := own_fr HROW.out (below_fr hb8 (fun _ => false) false) rfl; clear hnp hb8 hv8 z0 z1 z2)
        | (at_builtin; refine wpList_append_own _ rfl _ _ 79 rfl w1.heap.size 71 i0 (.pointer none) 1 8 Tryz.underlying79 HI.out HZA.out HZB.out HZC.out rfl (by decide) _ _ _ rfl (hr8.alloc _) ⟨_, 0, none⟩ 1 1 [.pointer (some ⟨qn, 0, none⟩)] rfl rfl ?c1 ?c2 ?c3 ?c4 ?c5 ?_))
      case c1 => exact news_one _ _ _ _ rfl
      case c2 => simp [Value.oneCell']
      case c3 => unfold maxLen; omega
      case c4 => omega
      case c5 => have h1 := HB8.out.size; have h2 := HS.out.pr.ws.below.size; simp; omega
      intro v' w11 hown' hgrow _
      have HREL := Lib.hid (HS.out.push_in HROW.out HVM.out HB8.out HN8.out hown' hgrow)
      clear hown' hgrow hr8
      go_wp2_with fail
      go_meet
      case rel => exact ⟨n3 + 1, by omega, HREL.out⟩
    · have d1 : decide (r < 1) = false := decide_eq_false hr
      go_wp2_with fail
      go_meet
      case rel => exact ⟨n3, by omega, HS.out⟩
  case rest =>
  clear HS
  obtain ⟨n4, hn4, hs⟩ := hcut
  obtain ⟨a12, cap12, rfl⟩ : ∃ a cap, u12 = .slice a n4 cap := by obtain ⟨xs, h, _⟩ := hs.ins; exact own_sl2 h
  have HS := Lib.hid hs
  clear hs
  generalize wc = wA at *
  have z0 : wA.cell? ⟨pa, 0, none⟩ = some (.int .i64 b) := hcell HS.out.pa 0
  have z1 : wA.cell? ⟨pa, 1, none⟩ = some (.int .i64 u) := hcell HS.out.pa 1
  have z2 : wA.cell? ⟨pa, 2, none⟩ = some (.int .i64 sl) := hcell HS.out.pa 2
  go_upto_if 55 with (go_at_call 28; refine (ritem_any b u sl HSL.out wA).mono ?_; rintro e wI ⟨rfl, bI⟩; have HSI := Lib.hid (HS.out.below bI); clear bI z0 z1 z2)
  clear HS
  go_cut [12, 13] (fun v v2 wx => ∃ n m, n ≤ 5 ∧ m ≤ 3 ∧ PVS w1 wx B R V s x q pa ab b u sl n m v v2)
  case first =>
    by_cases hi : itemA b u sl = 0
    · have d1 : (itemA b u sl == 0) = true := beq_iff_eq.2 hi
      have hnp : Calls Tryz.prog 27 #[.agg #[.int .i64 b, .int .i64 u, .int .i64 sl], .int .i64 1, .int .i64 1] wI fun e w' => ∃ q, e = .returned (.pointer (some ⟨q, 0, none⟩)) ∧ VPut w' (.pointer (some ⟨q, 0, none⟩)) ∧ Below wI.heap.size wI w' :=
        (newput_in b u sl 1 1 HSL.out (by decide) (by decide) wI).mono fun e w' ⟨qq, h1, h2, _, h4⟩ => ⟨qq, h1, .inr ⟨qq, _, _, rfl, h2, sof_out hi⟩, h4⟩
      have HNO : Hid (∀ W, Calls Tryz.prog 29 #[.agg #[.int .i64 b, .int .i64 u, .int .i64 sl]] W fun e w' => ∃ q, e = .returned (.pointer (some ⟨q, 0, none⟩)) ∧ VOut w' (.pointer (some ⟨q, 0, none⟩)) ∧ Below W.heap.size W w') := fun W =>
        (newout_any b u sl HSL.out W).mono fun e w' ⟨qq, h1, h2, _, h4⟩ => ⟨qq, h1, .inr ⟨qq, _, _, rfl, h2, sof_out hi⟩, h4⟩
      have hab := HSI.out.pa
      clear hi
      have z0 := hcell hab 0; have z1 := hcell hab 1; have z2 := hcell hab 2
      obtain ⟨xs, hrow, hvm⟩ := HSI.out.ins
      have HROW := Lib.hid hrow; have HVM := Lib.hid hvm
      clear hrow hvm hab
      go_upto_region 13 with (first
        | (go_at_call 27; refine hnp.mono ?_; intro e w8 hh; obtain ⟨qn, hh1, hv8, hb8⟩ := hh; subst hh1; have HB8 := Lib.hid hb8; have HN8 := Lib.hid hv8; have hr8 := own_fr HROW.out (below_fr hb8 (fun _ => false) false) rfl; clear hnp hb8 hv8 z0 z1 z2)
        | (at_builtin; refine wpList_append_own _ rfl _ _ 79 rfl w1.heap.size 71 i0 (.pointer none) 1 8 Tryz.underlying79 HI.out HZA.out HZB.out HZC.out rfl (by decide) _ _ _ rfl (hr8.alloc _) ⟨_, 0, none⟩ 1 1 [.pointer (some ⟨qn, 0, none⟩)] rfl rfl ?c1 ?c2 ?c3 ?c4 ?c5 ?_))
      case c1 => exact news_one _ _ _ _ rfl
      case c2 => simp [Value.oneCell']
      case c3 => unfold maxLen; omega
      case c4 => omega
      case c5 => have h1 := HB8.out.size; have h2 := HSI.out.pr.ws.below.size; simp; omega
      intro v' w11 hown' hgrow _
      have HREL := Lib.hid (HSI.out.push_in HROW.out HVM.out HB8.out HN8.out hown' hgrow)
      clear hown' hgrow hr8
      go_upto_region 13 with (fail)
      have HSJ := Lib.hid HREL.out
      clear HREL
      generalize w11 = wJ at *
      have hno := HNO.out wJ
      have hab := HSJ.out.pa
      have z0 := hcell hab 0; have z1 := hcell hab 1; have z2 := hcell hab 2
      obtain ⟨ys, hrow2, hvm2⟩ := HSJ.out.outs
      have HROW2 := Lib.hid hrow2; have HVM2 := Lib.hid hvm2
      clear hrow2 hvm2 hab
      go_wp2_with (first
        | (go_at_call 29; refine hno.mono ?_; intro e w9o hh; obtain ⟨qo, hh1, hv9, hb9⟩ := hh; subst hh1; have HB9 := Lib.hid hb9; have HN9 := Lib.hid hv9; have hr9 := own_fr HROW2.out (below_fr hb9 (fun _ => false) false) rfl; clear hno hb9 hv9 z0 z1 z2)
        | (at_builtin; refine wpList_append_own _ rfl _ _ 80 rfl w1.heap.size 76 i1 (.pointer none) 1 8 Tryz.underlying80 HJ.out HYA.out HYB.out HYC.out rfl (by decide) _ _ _ rfl (hr9.alloc _) ⟨_, 0, none⟩ 1 1 [.pointer (some ⟨qo, 0, none⟩)] rfl rfl ?c1 ?c2 ?c3 ?c4 ?c5 ?_))
      case c1 => exact news_one _ _ _ _ rfl
      case c2 => simp [Value.oneCell']
      case c3 => unfold maxLen; omega
      case c4 => omega
      case c5 => have h1 := HB9.out.size; have h2 := HSJ.out.pr.ws.below.size; simp; omega
      intro v2' w12 hown' hgrow _
      have HREL := Lib.hid (HSJ.out.push_out HROW2.out HVM2.out HB9.out HN9.out hown' hgrow)
      clear hown' hgrow hr9
      go_wp2_with fail
      go_meet
      case rel => exact ⟨n4 + 1, 3, by omega, by omega, HREL.out⟩
    · have d1 : (itemA b u sl == 0) = false := beq_eq_false_iff_ne.2 hi
      clear hi
      go_wp2_with fail
      go_meet
      case rel => exact ⟨n4, 2, by omega, by omega, HSI.out⟩
  case rest =>
  clear HSI
  obtain ⟨n, m, hn5, hm3, hs⟩ := hcut
  obtain ⟨ai, capi, rfl⟩ : ∃ a cap, u12 = .slice a n cap := by obtain ⟨xs, h, _⟩ := hs.ins; exact own_sl2 h
  obtain ⟨ao, capo, rfl⟩ : ∃ a cap, u13 = .slice a m cap := by obtain ⟨xs, h, _⟩ := hs.outs; exact own_sl2 h
  have HS := Lib.hid hs
  clear hs HI HZA HZB HZC HJ HYA HYB HYC
  go_wp2_with fail
  go_loopw [15] (fun i7 wr => ∃ i : Nat, i ≤ n ∧ i7 = .int .i64 i ∧ PVS w1 wr B R V s x q pa ab b u sl n m (.slice ai n capi) (.slice ao m capo)) (fun i7 _ => n - (intOf i7).toNat)
  case atStart => exact ⟨0, by omega, rfl, HS.out⟩
  case round =>
    clear HS
    obtain ⟨i, hi, rfl, hS⟩ := hrel
    by_cases hlt : i < n
    · have hlt' : (i : Int) < n := by omega
      obtain ⟨xs, hrow, hvm⟩ := hS.ins
      obtain ⟨g', cap', y, hv, hy, hyc, -⟩ := own_at hrow i hlt
      simp only [Value.slice.injEq, true_and] at hv
      obtain ⟨rfl, rfl⟩ := hv
      have hvy := hvm y (List.mem_of_getElem? hy)
      have z1 := fun st : ExtW wr => st.cell hyc
      have z0 : ∀ st : ExtW wr, st.val.cell? ⟨q, 0, none⟩ = some (.pointer (some ⟨B.wb, 0, none⟩)) := fun st => st.cell (hcell hS.pq 0)
      have m1 := fun st : ExtW wr => (hvy.below st.below).over
      have m2 := fun st : ExtW wr => (hvy.below st.below).step (.pointer (some ⟨B.wb, 0, none⟩))
      have m3 := fun st : ExtW wr => (hvy.below st.below).step (.pointer none)
      have HS := Lib.hid hS
      clear hS hrow hvm hy hvy hyc
      go_upto_region 17 with (fail)
      refine wp_region_ext (by kernel_rfl) (by kernel_rfl) ?_
      repeat (go_big_quiet_step (first
        | (go_at_call 30; with_reducible refine calls_ext (m1 _))
        | (go_at_call 31; with_reducible refine calls_ext (m2 _))
        | (go_at_call 31; with_reducible refine calls_ext (m3 _))))
      refine wpQuiet_nil ?_
      rintro W13 ⟨⟨W14, hW⟩, rfl⟩
      clear z0 z1 m1 m2 m3
      have HS2 := Lib.hid (HS.out.below hW)
      clear hW
      go_wp2
      go_roundw
      case rel => exact ⟨i + 1, by omega, by go_num, HS2.out⟩
      case measure => simp [intOf]; omega
    · obtain rfl : i = n := by omega
      have HS := Lib.hid hS
      clear hS hlt
      go_wp2_with fail
      go_loopw [16] (fun i7 wr => ∃ j : Nat, j ≤ m ∧ i7 = .int .i64 j ∧ PVS w1 wr B R V s x q pa ab b u sl i m (.slice ai i capi) (.slice ao m capo)) (fun i7 _ => m - (intOf i7).toNat)
      case atStart => exact ⟨0, by omega, rfl, HS.out⟩
      case round =>
        clear HS
        obtain ⟨j, hj, rfl, hS⟩ := hrel
        by_cases hlt : j < m
        · have hlt' : (j : Int) < m := by omega
          obtain ⟨xs, hrow, hvm⟩ := hS.outs
          obtain ⟨g', cap', y, hv, hy, hyc, -⟩ := own_at hrow j hlt
          simp only [Value.slice.injEq, true_and] at hv
          obtain ⟨rfl, rfl⟩ := hv
          have hvy := hvm y (List.mem_of_getElem? hy)
          have z1 := fun st : ExtW wr => st.cell hyc
          have z0 : ∀ st : ExtW wr, st.val.cell? ⟨q, 0, none⟩ = some (.pointer (some ⟨B.wb, 0, none⟩)) := fun st => st.cell (hcell hS.pq 0)
          have m1 := fun st : ExtW wr => (hvy.below st.below).over
          have m2 := fun st : ExtW wr => (hvy.below st.below).step (.pointer (some ⟨B.wb, 0, none⟩))
          have m3 := fun st : ExtW wr => ((hvy.below st.below).gone).mono fun e w' (h : _ ∧ _) => And.intro h.1 h.2.symm
          have HS := Lib.hid hS
          clear hS hrow hvm hy hvy hyc
          go_upto_region 22 with (fail)
          refine wp_region_ext (by kernel_rfl) (by kernel_rfl) ?_
          repeat (go_big_quiet_step (first
            | (go_at_call 32; with_reducible refine calls_ext (m1 _))
            | (go_at_call 33; with_reducible refine calls_ext (m2 _))
            | (go_at_call 34; with_reducible refine calls_ext_same (m3 _))))
          refine wpQuiet_nil ?_
          rintro W13 ⟨⟨W14, hW⟩, rfl⟩
          clear z0 z1 m1 m2 m3
          have HS2 := Lib.hid (HS.out.below hW)
          clear hW
          go_wp2
          go_roundw
          case rel => exact ⟨j + 1, by omega, by go_num, HS2.out⟩
          case measure => simp [intOf]; omega
        · obtain rfl : j = m := by omega
          have HS := Lib.hid hS
          have e0 : wr.cell? ⟨ab, 0, none⟩ = some (.int .i64 2) := hcell hS.ab 0
          have e1 : wr.cell? ⟨ab, 1, none⟩ = some (.int .i64 3) := hcell hS.ab 1
          have e2 : wr.cell? ⟨ab, 2, none⟩ = some (.int .i64 1) := hcell hS.ab 2
          clear hS hlt
          have hzz : (sof 2 3 1).tg ≠ 0 := by decide
          have hll : (sof 2 3 1).ln = 0 := by decide
          go_upto_region 25 with (go_at_call 27; refine (newput_in 2 3 1 1 1 (by decide) (by decide) (by decide) wr).mono ?_; intro e wP hh; obtain ⟨pp, hh1, hsP, hloP, hbP⟩ := hh; subst hh1; have HSP := Lib.hid (HS.out.below hbP); have HXP := Lib.hid hsP; clear hsP hloP hbP e0 e1 e2)
          have e0 : wP.cell? ⟨ab, 0, none⟩ = some (.int .i64 2) := hcell HSP.out.ab 0
          have e1 : wP.cell? ⟨ab, 1, none⟩ = some (.int .i64 3) := hcell HSP.out.ab 1
          have e2 : wP.cell? ⟨ab, 2, none⟩ = some (.int .i64 1) := hcell HSP.out.ab 2
          go_upto_region 26 with (go_at_call 29; refine (newout_any 2 3 1 (by decide) wP).mono ?_; intro e wO hh; obtain ⟨oo, hh1, hsO, hloO, hbO⟩ := hh; subst hh1; have HSO := Lib.hid (HSP.out.below hbO); have HXO := Lib.hid hsO; have HXP2 := Lib.hid (HXP.out.below hbO); clear hsO hloO hbO e0 e1 e2)
          have ht0 : ((sof 2 3 1).tg == 0) = false := beq_eq_false_iff_ne.2 hzz
          have ht4 : ((sof 2 3 1).ln == 3) = false := by rw [hll]; rfl
          have HT0 := Lib.hid ht0; have HT4 := Lib.hid ht4; have HLL := Lib.hid hll
          clear hzz hll ht0 ht4
          have o1 := pstep_no HXP2.out HT0.out HT4.out
          go_wp2_with (first
            | (go_at_call 31; refine o1.mono ?_; rintro e wa ⟨rfl, ba⟩; have HA := Lib.hid ba; have o2 := Putover (HXP2.out.below ba) false false HT0.out HT4.out; clear o1 ba)
            | (go_at_call 30; refine o2.mono ?_; rintro e wb ⟨rfl, bb⟩; have hab2 := HA.out.trans (bb.mono HA.out.size); have HBB := Lib.hid hab2; have o3 := ostep_no (HXO.out.below hab2) HT0.out HT4.out; clear o2 bb hab2)
            | (go_at_call 33; refine o3.mono ?_; rintro e wc3 ⟨rfl, bc⟩; have hac := HBB.out.trans (bc.mono HBB.out.size); have HCC := Lib.hid hac; have o4 := Outover (HXO.out.below hac) false false HT0.out HT4.out; clear o3 bc hac)
            | (go_at_call 32; refine o4.mono ?_; rintro e wd ⟨rfl, bd⟩; have had := HCC.out.trans (bd.mono HCC.out.size); have HDD := Lib.hid had; have o5 := gone_not (HXO.out.below had) (.inr HLL.out); have HSD := Lib.hid (HSO.out.below had); have p0 := hcell HSD.out.pq 0; have p1 := hcell HSD.out.pq 1; have o6 := psall_any HSD.out.pr HV.out.2 (by rw [HV.out.1]; exact Nat.zero_le _) (by have := HFAR.out.1; omega); clear o4 bd had)
            | (go_at_call 34; refine o5.mono ?_; rintro e w' ⟨rfl, hw⟩; obtain rfl := hw.symm; clear o5)
            | (go_at_call 14; refine o6.mono ?_; rintro e w17 ⟨rfl, b17⟩; have HB17 := Lib.hid b17; clear o6 b17 p0 p1)
            | (go_at_call 35; refine (lives13 _).mono ?_; rintro e w18 ⟨rfl, b18⟩))
          go_ret
          have h0 := HSD.out.pr.ws.below
          have h1 := h0.trans (HB17.out.mono h0.size)
          have h2 := h1.trans (b18.mono h1.size)
          rw [show w.heap.size = pa from HPA.out]
          exact ⟨rfl, HB0.out.trans (h2.mono (Nat.le_of_lt HS0.out))⟩
set_option maxRecDepth 10000 in
theorem walkPutsVoid {H1 : Type} (w : World) (enc : TypeId × Value → H1) (base : Nat) (v : Value) (d : DataW H1) (p : List MemPlace) (k : DataW.Trod enc Tryz.prog w 0 (fun _ => true) true 43 v d p) (o : Value.okWide Tryz.prog w .any base 43 v) (g : Int) (hg : (Lit.int .i64 g).wf = true) (r : Int) (hr : (Lit.int .i64 r).wf = true) :
    Calls Tryz.prog 5 #[v, .int .i64 g, .int .i64 r] w fun e w' => e = .returned (.bool true) ∧ Below w.heap.size w w' := by
  have hl : leaves Tryz.prog 4 43 = some [.int .i64, .int .i64, .int .i64] := by kernel_rfl
  obtain ⟨cs, rfl, -⟩ := Go.WideShapes.okWide_struct Tryz.underlying43 o
  have h : Leaf.allHold w [.int .i64, .int .i64, .int .i64] cs.toList := opened hl k
  obtain ⟨c0, r0, e0, g0, h⟩ := allHold_cons h
  obtain ⟨c1, r1, e1, g1, h⟩ := allHold_cons h
  obtain ⟨c2, r2, e2, g2, h⟩ := allHold_cons h
  obtain rfl := allHold_nil h
  obtain ⟨b, rfl, -⟩ := holds_int g0
  obtain ⟨u, rfl, -⟩ := holds_int g1
  obtain ⟨sl, rfl, hsl⟩ := holds_int g2
  have : cs = #[.int .i64 b, .int .i64 u, .int .i64 sl] := Array.toList_inj.1 (by rw [e0, e1, e2])
  rw [this]
  exact pvoid_any b u sl hsl g r w
end Go.Proofs.YtddflihgadlafaaGreat
