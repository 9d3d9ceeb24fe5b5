import Derived.Test.YtmakjfeepmiggaaGreatZ23
namespace Go.Proofs.YtmakjfeepmiggaaGreat
open Go.RowKit Go.Maps TagPure
set_option linter.unusedVariables false
theorem nea {a b o p : Nat} (h : a ≠ b) : (⟨b, o, none⟩ : Addr) ≠ ⟨a, p, none⟩ := fun c => h (by cases c; rfl)
def Dg.kind : Dg → Nat
  | .mark _ => 0
  | .out _ => 1
  | .put _ _ _ => 2
structure RHm (w : World) (lo b : Nat) (ln K : Int) (way : List (Int × Int × Int)) (tag : Int) (qs : List (Nat × Dg)) : Prop where
  low : lo ≤ b
  few : way.length ≤ 100000
  four : qs.length ≤ 4
  ex : ∃ vw p0 p1 p2 p3, w.heap[b]? = some (.cells #[.int .i64 ln, .int .i64 K, vw, .int .i64 tag, .pointer p0, .pointer p3, .pointer p1, .pointer p2] 212 (0, 0)) ∧ w.ownsRow lo 71 3 vw way.length (flat3 way) ∧ [p0, p1, p2, p3].drop (4 - qs.length) = qs.map (fun q => (some ⟨q.1, 0, none⟩ : Option Addr))
  kinds : qs.map (fun q => q.2.kind) = [0, 1, 2, 0].drop (4 - qs.length)
  dos : ∀ q ∈ qs, RDgAt w lo q.1 q.2 ∧ q.2.ok
  nd : (qs.map Prod.fst).Nodup
section
variable {w w' : World} {lo lo' b : Nat} {ln K tag : Int} {way : List (Int × Int × Int)} {qs : List (Nat × Dg)}
theorem RHm.blk (h : RHm w lo b ln K way tag qs) : ∃ cs, w.heap[b]? = some (.cells cs 212 (0, 0)) := by obtain ⟨vw, p0, p1, p2, p3, h1, -⟩ := h.ex; exact ⟨_, h1⟩
theorem RHm.lt (h : RHm w lo b ln K way tag qs) : b < w.heap.size := by obtain ⟨cs, b1⟩ := h.blk; exact (Array.getElem?_eq_some_iff.1 b1).1
theorem RHm.f (h : RHm w lo b ln K way tag qs) (o : Nat) : w.frozen? ⟨b, o, none⟩ = false := by obtain ⟨cs, b1⟩ := h.blk; exact hfrz b1 o
theorem RHm.ne (h : RHm w lo b ln K way tag qs) : ∀ q ∈ qs, q.1 ≠ b := fun q hq c => by
  obtain ⟨cs, b1⟩ := h.blk
  obtain ⟨cs2, b2⟩ := (h.dos q hq).1.blk
  rw [c, b1] at b2
  simp only [Option.some.injEq, Obj.cells.injEq] at b2
  rcases q.2.rty_or with e | e <;> rw [e] at b2 <;> exact absurd b2.2.1 (by decide)
theorem RHm.fr {X : TypeId → Bool} {mp : Bool} (h : RHm w lo b ln K way tag qs) (hf : Fr X mp w w') (h0 : X 212 = false) (h1 : X 319 = false) (h2 : X 321 = false) (h3 : X 39 = false) (h4 : X 71 = false) : RHm w' lo b ln K way tag qs := by
  obtain ⟨vw, p0, p1, p2, p3, g1, g2, g3⟩ := h.ex
  exact ⟨h.low, h.few, h.four, ⟨vw, p0, p1, p2, p3, hf.cells _ _ _ _ g1 h0, own_fr g2 hf h4, g3⟩, h.kinds, fun q hq => ⟨(h.dos q hq).1.fr hf h1 h2 h3, (h.dos q hq).2⟩, h.nd⟩
theorem RHm.below (h : RHm w lo b ln K way tag qs) (hb : Below w.heap.size w w') : RHm w' lo b ln K way tag qs := h.fr (below_fr hb (fun _ => false) false) rfl rfl rfl rfl rfl
theorem RHm.lower (h : RHm w lo b ln K way tag qs) (hl : lo' ≤ lo) : RHm w lo' b ln K way tag qs := by
  obtain ⟨vw, p0, p1, p2, p3, g1, g2, g3⟩ := h.ex
  exact ⟨Nat.le_trans hl h.low, h.few, h.four, ⟨vw, p0, p1, p2, p3, g1, own_lo17 g2 hl, g3⟩, h.kinds, fun q hq => ⟨(h.dos q hq).1.lower hl, (h.dos q hq).2⟩, h.nd⟩
theorem RHm.dset (h : RHm w lo b ln K way tag qs) (o : Nat) (u : Value) : ∀ q ∈ qs, RDgAt (w.setCell ⟨b, o, none⟩ u) lo q.1 q.2 ∧ q.2.ok := fun q hq => by
  obtain ⟨cs, b1⟩ := h.blk
  exact ⟨(h.dos q hq).1.fr (set_ty b1 o u) rfl rfl rfl, (h.dos q hq).2⟩
theorem RHm.set0 (h : RHm w lo b ln K way tag qs) (v : Int) : RHm (w.setCell ⟨b, 0, none⟩ (.int .i64 v)) lo b v K way tag qs := by
  obtain ⟨vw, p0, p1, p2, p3, g1, g2, g3⟩ := h.ex
  exact ⟨h.low, h.few, h.four, ⟨vw, p0, p1, p2, p3, setCell_same g1 0 _, own_fr g2 (set_ty g1 0 _) rfl, g3⟩, h.kinds, h.dset 0 _, h.nd⟩
theorem RHm.set1 (h : RHm w lo b ln K way tag qs) (v : Int) : RHm (w.setCell ⟨b, 1, none⟩ (.int .i64 v)) lo b ln v way tag qs := by
  obtain ⟨vw, p0, p1, p2, p3, g1, g2, g3⟩ := h.ex
  exact ⟨h.low, h.few, h.four, ⟨vw, p0, p1, p2, p3, setCell_same g1 1 _, own_fr g2 (set_ty g1 1 _) rfl, g3⟩, h.kinds, h.dset 1 _, h.nd⟩
theorem RHm.set3 (h : RHm w lo b ln K way tag qs) (v : Int) : RHm (w.setCell ⟨b, 3, none⟩ (.int .i64 v)) lo b ln K way v qs := by
  obtain ⟨vw, p0, p1, p2, p3, g1, g2, g3⟩ := h.ex
  exact ⟨h.low, h.few, h.four, ⟨vw, p0, p1, p2, p3, setCell_same g1 3 _, own_fr g2 (set_ty g1 3 _) rfl, g3⟩, h.kinds, h.dset 3 _, h.nd⟩
theorem RHm.drop (h : RHm w lo b ln K way tag qs) (j : Nat) (hj : j ≤ qs.length) : RHm w lo b ln K way tag (qs.drop j) := by
  obtain ⟨vw, p0, p1, p2, p3, g1, g2, g3⟩ := h.ex
  have h4 := h.four
  have e : 4 - (qs.drop j).length = (4 - qs.length) + j := by rw [List.length_drop]; omega
  refine ⟨h.low, h.few, by rw [List.length_drop]; omega, ⟨vw, p0, p1, p2, p3, g1, g2, ?_⟩, ?_, fun q hq => h.dos q (List.mem_of_mem_drop hq), ?_⟩
  · rw [e, ← List.drop_drop, g3, List.map_drop]
  · rw [e, ← List.drop_drop, ← h.kinds, List.map_drop]
  · rw [List.map_drop]; exact h.nd.sublist (List.drop_sublist _ _)
theorem RHm.line (h : RHm w lo b ln K way tag qs) {q : Nat × Dg} (hq : q ∈ qs) : ∃ l, w.cell? ⟨q.1, 0, none⟩ = some (.int .i64 l) ∧ (l == 0) = q.2.over := (h.dos q hq).1.line (h.dos q hq).2
end
theorem below_fx0 (w : World) (b : Nat) : Keeps (· = b) w w := below_keeps (Below.refl _ _) _
def onK (K : Int) (qs : List (Nat × Dg)) : Int × Int := if qs = [] then (if K = 0 then 0 else 1, K - 1) else (7 - (qs.length : Int), K)
def OnPost (lo b : Nat) (K : Int) (way : List (Int × Int × Int)) (tag : Int) (qs : List (Nat × Dg)) (W w' : World) : Prop := RHm w' lo b (onK K qs).1 (onK K qs).2 way tag qs ∧ Keeps (· = b) W w'
set_option maxRecDepth 10000 in
set_option maxHeartbeats 4000000 in
theorem rhpon1 {W0 : World} {lo b : Nat} {K tag : Int} {way : List (Int × Int × Int)} (b3 : Nat) (d3 : Dg) (h : RHm W0 lo b 6 K way tag [(b3, d3)]) (hK : 0 ≤ K ∧ K < 1000000) :
    Calls Tryz.prog 174 #[.pointer (some ⟨b, 0, none⟩)] W0 fun e w' => e = .returned (.tuple #[]) ∧ OnPost lo b K way tag ([(b3, d3)].dropWhile (fun q => q.2.over)) W0 w' := by
  have FX := Lib.hid (below_fx0 W0 b)
  obtain ⟨vw, p0, p1, p2, p3, g1, g2, g3⟩ := h.ex
  have c0 := hcell g1 0
  have c1 := hcell g1 1
  have f := h.f
  obtain rfl : p3 = some ⟨b3, 0, none⟩ := by simp at g3; first | exact g3 | exact g3.1 | exact g3.2 | exact g3.2.1 | exact g3.2.2 | exact g3.2.2.1 | exact g3.2.2.2
  have c5 := hcell g1 5
  obtain ⟨l3, x3, t3⟩ := h.line (q := (b3, d3)) (by simp)
  have n3 : b3 ≠ b := h.ne (b3, d3) (by simp)
  obtain ⟨o3, ho3⟩ : ∃ o3, o3 = d3.over := ⟨_, rfl⟩
  simp only at t3 x3
  rw [← ho3] at t3
  have HO3 := Lib.hid ho3
  have G := Lib.hid g1; have HH := Lib.hid h; have HKK := Lib.hid hK
  clear h g1 g2 g3 hK ho3
  cases o3
  · have e : [(b3, d3)].dropWhile (fun q => q.2.over) = [(b3, d3)] := by simp only [List.dropWhile, ← HO3.out]
    go_enter Tryz.func174, Tryz.ntmps174
    go_wp2_with fail
    go_end0
    refine ⟨rfl, ?_⟩
    rw [e]
    exact ⟨HH.out.drop 0 (by simp), FX.out⟩
  · have e : [(b3, d3)].dropWhile (fun q => q.2.over) = [] := by simp only [List.dropWhile, ← HO3.out]
    obtain ⟨K1, hK1⟩ : ∃ K1, K1 = K - 1 := ⟨_, rfl⟩
    have ew : wrap64 (K - 1) = K1 := by have := HKK.out; rw [hK1]; exact IntWalk.wrap64_in _ (by omega)
    have HK1 := Lib.hid hK1
    by_cases hz : K = 0
    · have q1 : decide (K1 < 0) = true := decide_eq_true (by have := HKK.out; omega)
      have HZ := Lib.hid hz
      clear hz hK1
      go_enter Tryz.func174, Tryz.ntmps174
      go_upto_region 8 with fail
      have G2 := Lib.hid (show (W0.setCell ⟨b, 0, none⟩ (.int .i64 1)).heap[b]? = some (.cells #[.int .i64 1, .int .i64 K, vw, .int .i64 tag, .pointer p0, .pointer (some ⟨b3, 0, none⟩), .pointer p1, .pointer p2] 212 (0, 0)) from setCell_same G.out 0 _)
      have HH2 := Lib.hid (HH.out.set0 1); have FX2 := Lib.hid (FX.out.again (setCell_keeps W0 b 0 (.int .i64 1)))
      have z3 : (W0.setCell ⟨b, 0, none⟩ (.int .i64 1)).cell? ⟨b3, 0, none⟩ = some (.int .i64 l3) := (World.cell?_setCell_other _ _ _ _ (nea n3)).trans x3
      clear G HH FX f x3 c5 c0 c1
      generalize W0.setCell ⟨b, 0, none⟩ (.int .i64 1) = W1 at *
      have G := G2; have HH := HH2; have FX := FX2; clear G2 HH2 FX2
      have x3 := z3; clear z3
      have c0 := hcell G.out 0; have c1 := hcell G.out 1; have f := HH.out.f
      have c5 := hcell G.out 5
      go_upto_region 9 with fail
      have G2 := Lib.hid (show (W1.setCell ⟨b, 1, none⟩ (.int .i64 K1)).heap[b]? = some (.cells #[.int .i64 1, .int .i64 K1, vw, .int .i64 tag, .pointer p0, .pointer (some ⟨b3, 0, none⟩), .pointer p1, .pointer p2] 212 (0, 0)) from setCell_same G.out 1 _)
      have HH2 := Lib.hid (HH.out.set1 K1); have FX2 := Lib.hid (FX.out.again (setCell_keeps W1 b 1 (.int .i64 K1)))
      have z3 : (W1.setCell ⟨b, 1, none⟩ (.int .i64 K1)).cell? ⟨b3, 0, none⟩ = some (.int .i64 l3) := (World.cell?_setCell_other _ _ _ _ (nea n3)).trans x3
      clear G HH FX f x3 c5 c0 c1
      generalize W1.setCell ⟨b, 1, none⟩ (.int .i64 K1) = W2 at *
      have G := G2; have HH := HH2; have FX := FX2; clear G2 HH2 FX2
      have x3 := z3; clear z3
      have c0 := hcell G.out 0; have c1 := hcell G.out 1; have f := HH.out.f
      have c5 := hcell G.out 5
      go_wp2_with fail
      go_end0
      refine ⟨rfl, ?_⟩
      rw [e]
      have hf := (HH.out.set0 0).drop 1 (by simp)
      unfold OnPost onK
      rw [if_pos rfl, if_pos HZ.out, ← HK1.out]
      exact ⟨hf, (FX.out.again (setCell_keeps _ _ _ _))⟩
    · have q1 : decide (K1 < 0) = false := decide_eq_false (by have := HKK.out; omega)
      have HZ := Lib.hid hz
      clear hz hK1
      go_enter Tryz.func174, Tryz.ntmps174
      go_upto_region 8 with fail
      have G2 := Lib.hid (show (W0.setCell ⟨b, 0, none⟩ (.int .i64 1)).heap[b]? = some (.cells #[.int .i64 1, .int .i64 K, vw, .int .i64 tag, .pointer p0, .pointer (some ⟨b3, 0, none⟩), .pointer p1, .pointer p2] 212 (0, 0)) from setCell_same G.out 0 _)
      have HH2 := Lib.hid (HH.out.set0 1); have FX2 := Lib.hid (FX.out.again (setCell_keeps W0 b 0 (.int .i64 1)))
      have z3 : (W0.setCell ⟨b, 0, none⟩ (.int .i64 1)).cell? ⟨b3, 0, none⟩ = some (.int .i64 l3) := (World.cell?_setCell_other _ _ _ _ (nea n3)).trans x3
      clear G HH FX f x3 c5 c0 c1
      generalize W0.setCell ⟨b, 0, none⟩ (.int .i64 1) = W1 at *
      have G := G2; have HH := HH2; have FX := FX2; clear G2 HH2 FX2
      have x3 := z3; clear z3
      have c0 := hcell G.out 0; have c1 := hcell G.out 1; have f := HH.out.f
      have c5 := hcell G.out 5
      go_upto_region 9 with fail
      have G2 := Lib.hid (show (W1.setCell ⟨b, 1, none⟩ (.int .i64 K1)).heap[b]? = some (.cells #[.int .i64 1, .int .i64 K1, vw, .int .i64 tag, .pointer p0, .pointer (some ⟨b3, 0, none⟩), .pointer p1, .pointer p2] 212 (0, 0)) from setCell_same G.out 1 _)
      have HH2 := Lib.hid (HH.out.set1 K1); have FX2 := Lib.hid (FX.out.again (setCell_keeps W1 b 1 (.int .i64 K1)))
      have z3 : (W1.setCell ⟨b, 1, none⟩ (.int .i64 K1)).cell? ⟨b3, 0, none⟩ = some (.int .i64 l3) := (World.cell?_setCell_other _ _ _ _ (nea n3)).trans x3
      clear G HH FX f x3 c5 c0 c1
      generalize W1.setCell ⟨b, 1, none⟩ (.int .i64 K1) = W2 at *
      have G := G2; have HH := HH2; have FX := FX2; clear G2 HH2 FX2
      have x3 := z3; clear z3
      have c0 := hcell G.out 0; have c1 := hcell G.out 1; have f := HH.out.f
      have c5 := hcell G.out 5
      go_wp2_with fail
      go_end0
      refine ⟨rfl, ?_⟩
      rw [e]
      have hf := HH.out.drop 1 (by simp)
      unfold OnPost onK
      rw [if_pos rfl, if_neg HZ.out, ← HK1.out]
      exact ⟨hf, FX.out⟩
set_option maxRecDepth 10000 in
set_option maxHeartbeats 4000000 in
theorem rhpon2 {W0 : World} {lo b : Nat} {K tag : Int} {way : List (Int × Int × Int)} (b2 : Nat) (d2 : Dg) (b3 : Nat) (d3 : Dg) (h : RHm W0 lo b 5 K way tag [(b2, d2), (b3, d3)]) (hK : 0 ≤ K ∧ K < 1000000) :
    Calls Tryz.prog 174 #[.pointer (some ⟨b, 0, none⟩)] W0 fun e w' => e = .returned (.tuple #[]) ∧ OnPost lo b K way tag ([(b2, d2), (b3, d3)].dropWhile (fun q => q.2.over)) W0 w' := by
  have FX := Lib.hid (below_fx0 W0 b)
  obtain ⟨vw, p0, p1, p2, p3, g1, g2, g3⟩ := h.ex
  have c0 := hcell g1 0
  have c1 := hcell g1 1
  have f := h.f
  obtain rfl : p2 = some ⟨b2, 0, none⟩ := by simp at g3; first | exact g3 | exact g3.1 | exact g3.2 | exact g3.2.1 | exact g3.2.2 | exact g3.2.2.1 | exact g3.2.2.2
  obtain rfl : p3 = some ⟨b3, 0, none⟩ := by simp at g3; first | exact g3 | exact g3.1 | exact g3.2 | exact g3.2.1 | exact g3.2.2 | exact g3.2.2.1 | exact g3.2.2.2
  have c7 := hcell g1 7
  have c5 := hcell g1 5
  obtain ⟨l2, x2, t2⟩ := h.line (q := (b2, d2)) (by simp)
  have n2 : b2 ≠ b := h.ne (b2, d2) (by simp)
  obtain ⟨o2, ho2⟩ : ∃ o2, o2 = d2.over := ⟨_, rfl⟩
  simp only at t2 x2
  rw [← ho2] at t2
  have HO2 := Lib.hid ho2
  obtain ⟨l3, x3, t3⟩ := h.line (q := (b3, d3)) (by simp)
  have n3 : b3 ≠ b := h.ne (b3, d3) (by simp)
  obtain ⟨o3, ho3⟩ : ∃ o3, o3 = d3.over := ⟨_, rfl⟩
  simp only at t3 x3
  rw [← ho3] at t3
  have HO3 := Lib.hid ho3
  have G := Lib.hid g1; have HH := Lib.hid h; have HKK := Lib.hid hK
  clear h g1 g2 g3 hK ho2 ho3
  cases o2
  · have e : [(b2, d2), (b3, d3)].dropWhile (fun q => q.2.over) = [(b2, d2), (b3, d3)] := by simp only [List.dropWhile, ← HO2.out]
    go_enter Tryz.func174, Tryz.ntmps174
    go_wp2_with fail
    go_end0
    refine ⟨rfl, ?_⟩
    rw [e]
    exact ⟨HH.out.drop 0 (by simp), FX.out⟩
  · cases o3
    · have e : [(b2, d2), (b3, d3)].dropWhile (fun q => q.2.over) = [(b3, d3)] := by simp only [List.dropWhile, ← HO2.out, ← HO3.out]
      go_enter Tryz.func174, Tryz.ntmps174
      go_upto_region 6 with fail
      have G2 := Lib.hid (show (W0.setCell ⟨b, 0, none⟩ (.int .i64 6)).heap[b]? = some (.cells #[.int .i64 6, .int .i64 K, vw, .int .i64 tag, .pointer p0, .pointer (some ⟨b3, 0, none⟩), .pointer p1, .pointer (some ⟨b2, 0, none⟩)] 212 (0, 0)) from setCell_same G.out 0 _)
      have HH2 := Lib.hid (HH.out.set0 6); have FX2 := Lib.hid (FX.out.again (setCell_keeps W0 b 0 (.int .i64 6)))
      have z2 : (W0.setCell ⟨b, 0, none⟩ (.int .i64 6)).cell? ⟨b2, 0, none⟩ = some (.int .i64 l2) := (World.cell?_setCell_other _ _ _ _ (nea n2)).trans x2
      have z3 : (W0.setCell ⟨b, 0, none⟩ (.int .i64 6)).cell? ⟨b3, 0, none⟩ = some (.int .i64 l3) := (World.cell?_setCell_other _ _ _ _ (nea n3)).trans x3
      clear G HH FX f x2 c7 x3 c5 c0 c1
      generalize W0.setCell ⟨b, 0, none⟩ (.int .i64 6) = W1 at *
      have G := G2; have HH := HH2; have FX := FX2; clear G2 HH2 FX2
      have x2 := z2; clear z2
      have x3 := z3; clear z3
      have c0 := hcell G.out 0; have c1 := hcell G.out 1; have f := HH.out.f
      have c7 := hcell G.out 7
      have c5 := hcell G.out 5
      go_wp2_with fail
      go_end0
      refine ⟨rfl, ?_⟩
      rw [e]
      exact ⟨HH.out.drop 1 (by simp), FX.out⟩
    · have e : [(b2, d2), (b3, d3)].dropWhile (fun q => q.2.over) = [] := by simp only [List.dropWhile, ← HO2.out, ← HO3.out]
      obtain ⟨K1, hK1⟩ : ∃ K1, K1 = K - 1 := ⟨_, rfl⟩
      have ew : wrap64 (K - 1) = K1 := by have := HKK.out; rw [hK1]; exact IntWalk.wrap64_in _ (by omega)
      have HK1 := Lib.hid hK1
      by_cases hz : K = 0
      · have q1 : decide (K1 < 0) = true := decide_eq_true (by have := HKK.out; omega)
        have HZ := Lib.hid hz
        clear hz hK1
        go_enter Tryz.func174, Tryz.ntmps174
        go_upto_region 6 with fail
        have G2 := Lib.hid (show (W0.setCell ⟨b, 0, none⟩ (.int .i64 6)).heap[b]? = some (.cells #[.int .i64 6, .int .i64 K, vw, .int .i64 tag, .pointer p0, .pointer (some ⟨b3, 0, none⟩), .pointer p1, .pointer (some ⟨b2, 0, none⟩)] 212 (0, 0)) from setCell_same G.out 0 _)
        have HH2 := Lib.hid (HH.out.set0 6); have FX2 := Lib.hid (FX.out.again (setCell_keeps W0 b 0 (.int .i64 6)))
        have z2 : (W0.setCell ⟨b, 0, none⟩ (.int .i64 6)).cell? ⟨b2, 0, none⟩ = some (.int .i64 l2) := (World.cell?_setCell_other _ _ _ _ (nea n2)).trans x2
        have z3 : (W0.setCell ⟨b, 0, none⟩ (.int .i64 6)).cell? ⟨b3, 0, none⟩ = some (.int .i64 l3) := (World.cell?_setCell_other _ _ _ _ (nea n3)).trans x3
        clear G HH FX f x2 c7 x3 c5 c0 c1
        generalize W0.setCell ⟨b, 0, none⟩ (.int .i64 6) = W1 at *
        have G := G2; have HH := HH2; have FX := FX2; clear G2 HH2 FX2
        have x2 := z2; clear z2
        have x3 := z3; clear z3
        have c0 := hcell G.out 0; have c1 := hcell G.out 1; have f := HH.out.f
        have c7 := hcell G.out 7
        have c5 := hcell G.out 5
        go_upto_region 8 with fail
        have G2 := Lib.hid (show (W1.setCell ⟨b, 0, none⟩ (.int .i64 1)).heap[b]? = some (.cells #[.int .i64 1, .int .i64 K, vw, .int .i64 tag, .pointer p0, .pointer (some ⟨b3, 0, none⟩), .pointer p1, .pointer (some ⟨b2, 0, none⟩)] 212 (0, 0)) from setCell_same G.out 0 _)
        have HH2 := Lib.hid (HH.out.set0 1); have FX2 := Lib.hid (FX.out.again (setCell_keeps W1 b 0 (.int .i64 1)))
        have z2 : (W1.setCell ⟨b, 0, none⟩ (.int .i64 1)).cell? ⟨b2, 0, none⟩ = some (.int .i64 l2) := (World.cell?_setCell_other _ _ _ _ (nea n2)).trans x2
        have z3 : (W1.setCell ⟨b, 0, none⟩ (.int .i64 1)).cell? ⟨b3, 0, none⟩ = some (.int .i64 l3) := (World.cell?_setCell_other _ _ _ _ (nea n3)).trans x3
        clear G HH FX f x2 c7 x3 c5 c0 c1
        generalize W1.setCell ⟨b, 0, none⟩ (.int .i64 1) = W2 at *
        have G := G2; have HH := HH2; have FX := FX2; clear G2 HH2 FX2
        have x2 := z2; clear z2
        have x3 := z3; clear z3
        have c0 := hcell G.out 0; have c1 := hcell G.out 1; have f := HH.out.f
        have c7 := hcell G.out 7
        have c5 := hcell G.out 5
        go_upto_region 9 with fail
        have G2 := Lib.hid (show (W2.setCell ⟨b, 1, none⟩ (.int .i64 K1)).heap[b]? = some (.cells #[.int .i64 1, .int .i64 K1, vw, .int .i64 tag, .pointer p0, .pointer (some ⟨b3, 0, none⟩), .pointer p1, .pointer (some ⟨b2, 0, none⟩)] 212 (0, 0)) from setCell_same G.out 1 _)
        have HH2 := Lib.hid (HH.out.set1 K1); have FX2 := Lib.hid (FX.out.again (setCell_keeps W2 b 1 (.int .i64 K1)))
        have z2 : (W2.setCell ⟨b, 1, none⟩ (.int .i64 K1)).cell? ⟨b2, 0, none⟩ = some (.int .i64 l2) := (World.cell?_setCell_other _ _ _ _ (nea n2)).trans x2
        have z3 : (W2.setCell ⟨b, 1, none⟩ (.int .i64 K1)).cell? ⟨b3, 0, none⟩ = some (.int .i64 l3) := (World.cell?_setCell_other _ _ _ _ (nea n3)).trans x3
        clear G HH FX f x2 c7 x3 c5 c0 c1
        generalize W2.setCell ⟨b, 1, none⟩ (.int .i64 K1) = W3 at *
        have G := G2; have HH := HH2; have FX := FX2; clear G2 HH2 FX2
        have x2 := z2; clear z2
        have x3 := z3; clear z3
        have c0 := hcell G.out 0; have c1 := hcell G.out 1; have f := HH.out.f
        have c7 := hcell G.out 7
        have c5 := hcell G.out 5
        go_wp2_with fail
        go_end0
        refine ⟨rfl, ?_⟩
        rw [e]
        have hf := (HH.out.set0 0).drop 2 (by simp)
        unfold OnPost onK
        rw [if_pos rfl, if_pos HZ.out, ← HK1.out]
        exact ⟨hf, (FX.out.again (setCell_keeps _ _ _ _))⟩
      · have q1 : decide (K1 < 0) = false := decide_eq_false (by have := HKK.out; omega)
        have HZ := Lib.hid hz
        clear hz hK1
        go_enter Tryz.func174, Tryz.ntmps174
        go_upto_region 6 with fail
        have G2 := Lib.hid (show (W0.setCell ⟨b, 0, none⟩ (.int .i64 6)).heap[b]? = some (.cells #[.int .i64 6, .int .i64 K, vw, .int .i64 tag, .pointer p0, .pointer (some ⟨b3, 0, none⟩), .pointer p1, .pointer (some ⟨b2, 0, none⟩)] 212 (0, 0)) from setCell_same G.out 0 _)
        have HH2 := Lib.hid (HH.out.set0 6); have FX2 := Lib.hid (FX.out.again (setCell_keeps W0 b 0 (.int .i64 6)))
        have z2 : (W0.setCell ⟨b, 0, none⟩ (.int .i64 6)).cell? ⟨b2, 0, none⟩ = some (.int .i64 l2) := (World.cell?_setCell_other _ _ _ _ (nea n2)).trans x2
        have z3 : (W0.setCell ⟨b, 0, none⟩ (.int .i64 6)).cell? ⟨b3, 0, none⟩ = some (.int .i64 l3) := (World.cell?_setCell_other _ _ _ _ (nea n3)).trans x3
        clear G HH FX f x2 c7 x3 c5 c0 c1
        generalize W0.setCell ⟨b, 0, none⟩ (.int .i64 6) = W1 at *
        have G := G2; have HH := HH2; have FX := FX2; clear G2 HH2 FX2
        have x2 := z2; clear z2
        have x3 := z3; clear z3
        have c0 := hcell G.out 0; have c1 := hcell G.out 1; have f := HH.out.f
        have c7 := hcell G.out 7
        have c5 := hcell G.out 5
        go_upto_region 8 with fail
        have G2 := Lib.hid (show (W1.setCell ⟨b, 0, none⟩ (.int .i64 1)).heap[b]? = some (.cells #[.int .i64 1, .int .i64 K, vw, .int .i64 tag, .pointer p0, .pointer (some ⟨b3, 0, none⟩), .pointer p1, .pointer (some ⟨b2, 0, none⟩)] 212 (0, 0)) from setCell_same G.out 0 _)
        have HH2 := Lib.hid (HH.out.set0 1); have FX2 := Lib.hid (FX.out.again (setCell_keeps W1 b 0 (.int .i64 1)))
        have z2 : (W1.setCell ⟨b, 0, none⟩ (.int .i64 1)).cell? ⟨b2, 0, none⟩ = some (.int .i64 l2) := (World.cell?_setCell_other _ _ _ _ (nea n2)).trans x2
        have z3 : (W1.setCell ⟨b, 0, none⟩ (.int .i64 1)).cell? ⟨b3, 0, none⟩ = some (.int .i64 l3) := (World.cell?_setCell_other _ _ _ _ (nea n3)).trans x3
        clear G HH FX f x2 c7 x3 c5 c0 c1
        generalize W1.setCell ⟨b, 0, none⟩ (.int .i64 1) = W2 at *
        have G := G2; have HH := HH2; have FX := FX2; clear G2 HH2 FX2
        have x2 := z2; clear z2
        have x3 := z3; clear z3
        have c0 := hcell G.out 0; have c1 := hcell G.out 1; have f := HH.out.f
        have c7 := hcell G.out 7
        have c5 := hcell G.out 5
        go_upto_region 9 with fail
        have G2 := Lib.hid (show (W2.setCell ⟨b, 1, none⟩ (.int .i64 K1)).heap[b]? = some (.cells #[.int .i64 1, .int .i64 K1, vw, .int .i64 tag, .pointer p0, .pointer (some ⟨b3, 0, none⟩), .pointer p1, .pointer (some ⟨b2, 0, none⟩)] 212 (0, 0)) from setCell_same G.out 1 _)
        have HH2 := Lib.hid (HH.out.set1 K1); have FX2 := Lib.hid (FX.out.again (setCell_keeps W2 b 1 (.int .i64 K1)))
        have z2 : (W2.setCell ⟨b, 1, none⟩ (.int .i64 K1)).cell? ⟨b2, 0, none⟩ = some (.int .i64 l2) := (World.cell?_setCell_other _ _ _ _ (nea n2)).trans x2
        have z3 : (W2.setCell ⟨b, 1, none⟩ (.int .i64 K1)).cell? ⟨b3, 0, none⟩ = some (.int .i64 l3) := (World.cell?_setCell_other _ _ _ _ (nea n3)).trans x3
        clear G HH FX f x2 c7 x3 c5 c0 c1
        generalize W2.setCell ⟨b, 1, none⟩ (.int .i64 K1) = W3 at *
        have G := G2; have HH := HH2; have FX := FX2; clear G2 HH2 FX2
        have x2 := z2; clear z2
        have x3 := z3; clear z3
        have c0 := hcell G.out 0; have c1 := hcell G.out 1; have f := HH.out.f
        have c7 := hcell G.out 7
        have c5 := hcell G.out 5
        go_wp2_with fail
        go_end0
        refine ⟨rfl, ?_⟩
        rw [e]
        have hf := HH.out.drop 2 (by simp)
        unfold OnPost onK
        rw [if_pos rfl, if_neg HZ.out, ← HK1.out]
        exact ⟨hf, FX.out⟩
set_option maxRecDepth 10000 in
set_option maxHeartbeats 4000000 in
theorem rhpon3 {W0 : World} {lo b : Nat} {K tag : Int} {way : List (Int × Int × Int)} (b1 : Nat) (d1 : Dg) (b2 : Nat) (d2 : Dg) (b3 : Nat) (d3 : Dg) (h : RHm W0 lo b 4 K way tag [(b1, d1), (b2, d2), (b3, d3)]) (hK : 0 ≤ K ∧ K < 1000000) :
    Calls Tryz.prog 174 #[.pointer (some ⟨b, 0, none⟩)] W0 fun e w' => e = .returned (.tuple #[]) ∧ OnPost lo b K way tag ([(b1, d1), (b2, d2), (b3, d3)].dropWhile (fun q => q.2.over)) W0 w' := by
  have FX := Lib.hid (below_fx0 W0 b)
  obtain ⟨vw, p0, p1, p2, p3, g1, g2, g3⟩ := h.ex
  have c0 := hcell g1 0
  have c1 := hcell g1 1
  have f := h.f
  obtain rfl : p1 = some ⟨b1, 0, none⟩ := by simp at g3; first | exact g3 | exact g3.1 | exact g3.2 | exact g3.2.1 | exact g3.2.2 | exact g3.2.2.1 | exact g3.2.2.2
  obtain rfl : p2 = some ⟨b2, 0, none⟩ := by simp at g3; first | exact g3 | exact g3.1 | exact g3.2 | exact g3.2.1 | exact g3.2.2 | exact g3.2.2.1 | exact g3.2.2.2
  obtain rfl : p3 = some ⟨b3, 0, none⟩ := by simp at g3; first | exact g3 | exact g3.1 | exact g3.2 | exact g3.2.1 | exact g3.2.2 | exact g3.2.2.1 | exact g3.2.2.2
  have c6 := hcell g1 6
  have c7 := hcell g1 7
  have c5 := hcell g1 5
  obtain ⟨l1, x1, t1⟩ := h.line (q := (b1, d1)) (by simp)
  have n1 : b1 ≠ b := h.ne (b1, d1) (by simp)
  obtain ⟨o1, ho1⟩ : ∃ o1, o1 = d1.over := ⟨_, rfl⟩
  simp only at t1 x1
  rw [← ho1] at t1
  have HO1 := Lib.hid ho1
  obtain ⟨l2, x2, t2⟩ := h.line (q := (b2, d2)) (by simp)
  have n2 : b2 ≠ b := h.ne (b2, d2) (by simp)
  obtain ⟨o2, ho2⟩ : ∃ o2, o2 = d2.over := ⟨_, rfl⟩
  simp only at t2 x2
  rw [← ho2] at t2
  have HO2 := Lib.hid ho2
  obtain ⟨l3, x3, t3⟩ := h.line (q := (b3, d3)) (by simp)
  have n3 : b3 ≠ b := h.ne (b3, d3) (by simp)
  obtain ⟨o3, ho3⟩ : ∃ o3, o3 = d3.over := ⟨_, rfl⟩
  simp only at t3 x3
  rw [← ho3] at t3
  have HO3 := Lib.hid ho3
  have G := Lib.hid g1; have HH := Lib.hid h; have HKK := Lib.hid hK
  clear h g1 g2 g3 hK ho1 ho2 ho3
  cases o1
  · have e : [(b1, d1), (b2, d2), (b3, d3)].dropWhile (fun q => q.2.over) = [(b1, d1), (b2, d2), (b3, d3)] := by simp only [List.dropWhile, ← HO1.out]
    go_enter Tryz.func174, Tryz.ntmps174
    go_wp2_with fail
    go_end0
    refine ⟨rfl, ?_⟩
    rw [e]
    exact ⟨HH.out.drop 0 (by simp), FX.out⟩
  · cases o2
    · have e : [(b1, d1), (b2, d2), (b3, d3)].dropWhile (fun q => q.2.over) = [(b2, d2), (b3, d3)] := by simp only [List.dropWhile, ← HO1.out, ← HO2.out]
      go_enter Tryz.func174, Tryz.ntmps174
      go_upto_region 4 with fail
      have G2 := Lib.hid (show (W0.setCell ⟨b, 0, none⟩ (.int .i64 5)).heap[b]? = some (.cells #[.int .i64 5, .int .i64 K, vw, .int .i64 tag, .pointer p0, .pointer (some ⟨b3, 0, none⟩), .pointer (some ⟨b1, 0, none⟩), .pointer (some ⟨b2, 0, none⟩)] 212 (0, 0)) from setCell_same G.out 0 _)
      have HH2 := Lib.hid (HH.out.set0 5); have FX2 := Lib.hid (FX.out.again (setCell_keeps W0 b 0 (.int .i64 5)))
      have z1 : (W0.setCell ⟨b, 0, none⟩ (.int .i64 5)).cell? ⟨b1, 0, none⟩ = some (.int .i64 l1) := (World.cell?_setCell_other _ _ _ _ (nea n1)).trans x1
      have z2 : (W0.setCell ⟨b, 0, none⟩ (.int .i64 5)).cell? ⟨b2, 0, none⟩ = some (.int .i64 l2) := (World.cell?_setCell_other _ _ _ _ (nea n2)).trans x2
      have z3 : (W0.setCell ⟨b, 0, none⟩ (.int .i64 5)).cell? ⟨b3, 0, none⟩ = some (.int .i64 l3) := (World.cell?_setCell_other _ _ _ _ (nea n3)).trans x3
      clear G HH FX f x1 c6 x2 c7 x3 c5 c0 c1
      generalize W0.setCell ⟨b, 0, none⟩ (.int .i64 5) = W1 at *
      have G := G2; have HH := HH2; have FX := FX2; clear G2 HH2 FX2
      have x1 := z1; clear z1
      have x2 := z2; clear z2
      have x3 := z3; clear z3
      have c0 := hcell G.out 0; have c1 := hcell G.out 1; have f := HH.out.f
      have c6 := hcell G.out 6
      have c7 := hcell G.out 7
      have c5 := hcell G.out 5
      go_wp2_with fail
      go_end0
      refine ⟨rfl, ?_⟩
      rw [e]
      exact ⟨HH.out.drop 1 (by simp), FX.out⟩
    · cases o3
      · have e : [(b1, d1), (b2, d2), (b3, d3)].dropWhile (fun q => q.2.over) = [(b3, d3)] := by simp only [List.dropWhile, ← HO1.out, ← HO2.out, ← HO3.out]
        go_enter Tryz.func174, Tryz.ntmps174
        go_upto_region 4 with fail
        have G2 := Lib.hid (show (W0.setCell ⟨b, 0, none⟩ (.int .i64 5)).heap[b]? = some (.cells #[.int .i64 5, .int .i64 K, vw, .int .i64 tag, .pointer p0, .pointer (some ⟨b3, 0, none⟩), .pointer (some ⟨b1, 0, none⟩), .pointer (some ⟨b2, 0, none⟩)] 212 (0, 0)) from setCell_same G.out 0 _)
        have HH2 := Lib.hid (HH.out.set0 5); have FX2 := Lib.hid (FX.out.again (setCell_keeps W0 b 0 (.int .i64 5)))
        have z1 : (W0.setCell ⟨b, 0, none⟩ (.int .i64 5)).cell? ⟨b1, 0, none⟩ = some (.int .i64 l1) := (World.cell?_setCell_other _ _ _ _ (nea n1)).trans x1
        have z2 : (W0.setCell ⟨b, 0, none⟩ (.int .i64 5)).cell? ⟨b2, 0, none⟩ = some (.int .i64 l2) := (World.cell?_setCell_other _ _ _ _ (nea n2)).trans x2
        have z3 : (W0.setCell ⟨b, 0, none⟩ (.int .i64 5)).cell? ⟨b3, 0, none⟩ = some (.int .i64 l3) := (World.cell?_setCell_other _ _ _ _ (nea n3)).trans x3
        clear G HH FX f x1 c6 x2 c7 x3 c5 c0 c1
        generalize W0.setCell ⟨b, 0, none⟩ (.int .i64 5) = W1 at *
        have G := G2; have HH := HH2; have FX := FX2; clear G2 HH2 FX2
        have x1 := z1; clear z1
        have x2 := z2; clear z2
        have x3 := z3; clear z3
        have c0 := hcell G.out 0; have c1 := hcell G.out 1; have f := HH.out.f
        have c6 := hcell G.out 6
        have c7 := hcell G.out 7
        have c5 := hcell G.out 5
        go_upto_region 6 with fail
        have G2 := Lib.hid (show (W1.setCell ⟨b, 0, none⟩ (.int .i64 6)).heap[b]? = some (.cells #[.int .i64 6, .int .i64 K, vw, .int .i64 tag, .pointer p0, .pointer (some ⟨b3, 0, none⟩), .pointer (some ⟨b1, 0, none⟩), .pointer (some ⟨b2, 0, none⟩)] 212 (0, 0)) from setCell_same G.out 0 _)
        have HH2 := Lib.hid (HH.out.set0 6); have FX2 := Lib.hid (FX.out.again (setCell_keeps W1 b 0 (.int .i64 6)))
        have z1 : (W1.setCell ⟨b, 0, none⟩ (.int .i64 6)).cell? ⟨b1, 0, none⟩ = some (.int .i64 l1) := (World.cell?_setCell_other _ _ _ _ (nea n1)).trans x1
        have z2 : (W1.setCell ⟨b, 0, none⟩ (.int .i64 6)).cell? ⟨b2, 0, none⟩ = some (.int .i64 l2) := (World.cell?_setCell_other _ _ _ _ (nea n2)).trans x2
        have z3 : (W1.setCell ⟨b, 0, none⟩ (.int .i64 6)).cell? ⟨b3, 0, none⟩ = some (.int .i64 l3) := (World.cell?_setCell_other _ _ _ _ (nea n3)).trans x3
        clear G HH FX f x1 c6 x2 c7 x3 c5 c0 c1
        generalize W1.setCell ⟨b, 0, none⟩ (.int .i64 6) = W2 at *
        have G := G2; have HH := HH2; have FX := FX2; clear G2 HH2 FX2
        have x1 := z1; clear z1
        have x2 := z2; clear z2
        have x3 := z3; clear z3
        have c0 := hcell G.out 0; have c1 := hcell G.out 1; have f := HH.out.f
        have c6 := hcell G.out 6
        have c7 := hcell G.out 7
        have c5 := hcell G.out 5
        go_wp2_with fail
        go_end0
        refine ⟨rfl, ?_⟩
        rw [e]
        exact ⟨HH.out.drop 2 (by simp), FX.out⟩
      · have e : [(b1, d1), (b2, d2), (b3, d3)].dropWhile (fun q => q.2.over) = [] := by simp only [List.dropWhile, ← HO1.out, ← HO2.out, ← HO3.out]
        obtain ⟨K1, hK1⟩ : ∃ K1, K1 = K - 1 := ⟨_, rfl⟩
        have ew : wrap64 (K - 1) = K1 := by have := HKK.out; rw [hK1]; exact IntWalk.wrap64_in _ (by omega)
        have HK1 := Lib.hid hK1
        by_cases hz : K = 0
        · have q1 : decide (K1 < 0) = true := decide_eq_true (by have := HKK.out; omega)
          have HZ := Lib.hid hz
          clear hz hK1
          go_enter Tryz.func174, Tryz.ntmps174
          go_upto_region 4 with fail
          have G2 := Lib.hid (show (W0.setCell ⟨b, 0, none⟩ (.int .i64 5)).heap[b]? = some (.cells #[.int .i64 5, .int .i64 K, vw, .int .i64 tag, .pointer p0, .pointer (some ⟨b3, 0, none⟩), .pointer (some ⟨b1, 0, none⟩), .pointer (some ⟨b2, 0, none⟩)] 212 (0, 0)) from setCell_same G.out 0 _)
          have HH2 := Lib.hid (HH.out.set0 5); have FX2 := Lib.hid (FX.out.again (setCell_keeps W0 b 0 (.int .i64 5)))
          have z1 : (W0.setCell ⟨b, 0, none⟩ (.int .i64 5)).cell? ⟨b1, 0, none⟩ = some (.int .i64 l1) := (World.cell?_setCell_other _ _ _ _ (nea n1)).trans x1
          have z2 : (W0.setCell ⟨b, 0, none⟩ (.int .i64 5)).cell? ⟨b2, 0, none⟩ = some (.int .i64 l2) := (World.cell?_setCell_other _ _ _ _ (nea n2)).trans x2
          have z3 : (W0.setCell ⟨b, 0, none⟩ (.int .i64 5)).cell? ⟨b3, 0, none⟩ = some (.int .i64 l3) := (World.cell?_setCell_other _ _ _ _ (nea n3)).trans x3
          clear G HH FX f x1 c6 x2 c7 x3 c5 c0 c1
          generalize W0.setCell ⟨b, 0, none⟩ (.int .i64 5) = W1 at *
          have G := G2; have HH := HH2; have FX := FX2; clear G2 HH2 FX2
          have x1 := z1; clear z1
          have x2 := z2; clear z2
          have x3 := z3; clear z3
          have c0 := hcell G.out 0; have c1 := hcell G.out 1; have f := HH.out.f
          have c6 := hcell G.out 6
          have c7 := hcell G.out 7
          have c5 := hcell G.out 5
          go_upto_region 6 with fail
          have G2 := Lib.hid (show (W1.setCell ⟨b, 0, none⟩ (.int .i64 6)).heap[b]? = some (.cells #[.int .i64 6, .int .i64 K, vw, .int .i64 tag, .pointer p0, .pointer (some ⟨b3, 0, none⟩), .pointer (some ⟨b1, 0, none⟩), .pointer (some ⟨b2, 0, none⟩)] 212 (0, 0)) from setCell_same G.out 0 _)
          have HH2 := Lib.hid (HH.out.set0 6); have FX2 := Lib.hid (FX.out.again (setCell_keeps W1 b 0 (.int .i64 6)))
          have z1 : (W1.setCell ⟨b, 0, none⟩ (.int .i64 6)).cell? ⟨b1, 0, none⟩ = some (.int .i64 l1) := (World.cell?_setCell_other _ _ _ _ (nea n1)).trans x1
          have z2 : (W1.setCell ⟨b, 0, none⟩ (.int .i64 6)).cell? ⟨b2, 0, none⟩ = some (.int .i64 l2) := (World.cell?_setCell_other _ _ _ _ (nea n2)).trans x2
          have z3 : (W1.setCell ⟨b, 0, none⟩ (.int .i64 6)).cell? ⟨b3, 0, none⟩ = some (.int .i64 l3) := (World.cell?_setCell_other _ _ _ _ (nea n3)).trans x3
          clear G HH FX f x1 c6 x2 c7 x3 c5 c0 c1
          generalize W1.setCell ⟨b, 0, none⟩ (.int .i64 6) = W2 at *
          have G := G2; have HH := HH2; have FX := FX2; clear G2 HH2 FX2
          have x1 := z1; clear z1
          have x2 := z2; clear z2
          have x3 := z3; clear z3
          have c0 := hcell G.out 0; have c1 := hcell G.out 1; have f := HH.out.f
          have c6 := hcell G.out 6
          have c7 := hcell G.out 7
          have c5 := hcell G.out 5
          go_upto_region 8 with fail
          have G2 := Lib.hid (show (W2.setCell ⟨b, 0, none⟩ (.int .i64 1)).heap[b]? = some (.cells #[.int .i64 1, .int .i64 K, vw, .int .i64 tag, .pointer p0, .pointer (some ⟨b3, 0, none⟩), .pointer (some ⟨b1, 0, none⟩), .pointer (some ⟨b2, 0, none⟩)] 212 (0, 0)) from setCell_same G.out 0 _)
          have HH2 := Lib.hid (HH.out.set0 1); have FX2 := Lib.hid (FX.out.again (setCell_keeps W2 b 0 (.int .i64 1)))
          have z1 : (W2.setCell ⟨b, 0, none⟩ (.int .i64 1)).cell? ⟨b1, 0, none⟩ = some (.int .i64 l1) := (World.cell?_setCell_other _ _ _ _ (nea n1)).trans x1
          have z2 : (W2.setCell ⟨b, 0, none⟩ (.int .i64 1)).cell? ⟨b2, 0, none⟩ = some (.int .i64 l2) := (World.cell?_setCell_other _ _ _ _ (nea n2)).trans x2
          have z3 : (W2.setCell ⟨b, 0, none⟩ (.int .i64 1)).cell? ⟨b3, 0, none⟩ = some (.int .i64 l3) := (World.cell?_setCell_other _ _ _ _ (nea n3)).trans x3
          clear G HH FX f x1 c6 x2 c7 x3 c5 c0 c1
          generalize W2.setCell ⟨b, 0, none⟩ (.int .i64 1) = W3 at *
          have G := G2; have HH := HH2; have FX := FX2; clear G2 HH2 FX2
          have x1 := z1; clear z1
          have x2 := z2; clear z2
          have x3 := z3; clear z3
          have c0 := hcell G.out 0; have c1 := hcell G.out 1; have f := HH.out.f
          have c6 := hcell G.out 6
          have c7 := hcell G.out 7
          have c5 := hcell G.out 5
          go_upto_region 9 with fail
          have G2 := Lib.hid (show (W3.setCell ⟨b, 1, none⟩ (.int .i64 K1)).heap[b]? = some (.cells #[.int .i64 1, .int .i64 K1, vw, .int .i64 tag, .pointer p0, .pointer (some ⟨b3, 0, none⟩), .pointer (some ⟨b1, 0, none⟩), .pointer (some ⟨b2, 0, none⟩)] 212 (0, 0)) from setCell_same G.out 1 _)
          have HH2 := Lib.hid (HH.out.set1 K1); have FX2 := Lib.hid (FX.out.again (setCell_keeps W3 b 1 (.int .i64 K1)))
          have z1 : (W3.setCell ⟨b, 1, none⟩ (.int .i64 K1)).cell? ⟨b1, 0, none⟩ = some (.int .i64 l1) := (World.cell?_setCell_other _ _ _ _ (nea n1)).trans x1
          have z2 : (W3.setCell ⟨b, 1, none⟩ (.int .i64 K1)).cell? ⟨b2, 0, none⟩ = some (.int .i64 l2) := (World.cell?_setCell_other _ _ _ _ (nea n2)).trans x2
          have z3 : (W3.setCell ⟨b, 1, none⟩ (.int .i64 K1)).cell? ⟨b3, 0, none⟩ = some (.int .i64 l3) := (World.cell?_setCell_other _ _ _ _ (nea n3)).trans x3
          clear G HH FX f x1 c6 x2 c7 x3 c5 c0 c1
          generalize W3.setCell ⟨b, 1, none⟩ (.int .i64 K1) = W4 at *
          have G := G2; have HH := HH2; have FX := FX2; clear G2 HH2 FX2
          have x1 := z1; clear z1
          have x2 := z2; clear z2
          have x3 := z3; clear z3
          have c0 := hcell G.out 0; have c1 := hcell G.out 1; have f := HH.out.f
          have c6 := hcell G.out 6
          have c7 := hcell G.out 7
          have c5 := hcell G.out 5
          go_wp2_with fail
          go_end0
          refine ⟨rfl, ?_⟩
          rw [e]
          have hf := (HH.out.set0 0).drop 3 (by simp)
          unfold OnPost onK
          rw [if_pos rfl, if_pos HZ.out, ← HK1.out]
          exact ⟨hf, (FX.out.again (setCell_keeps _ _ _ _))⟩
        · have q1 : decide (K1 < 0) = false := decide_eq_false (by have := HKK.out; omega)
          have HZ := Lib.hid hz
          clear hz hK1
          go_enter Tryz.func174, Tryz.ntmps174
          go_upto_region 4 with fail
          have G2 := Lib.hid (show (W0.setCell ⟨b, 0, none⟩ (.int .i64 5)).heap[b]? = some (.cells #[.int .i64 5, .int .i64 K, vw, .int .i64 tag, .pointer p0, .pointer (some ⟨b3, 0, none⟩), .pointer (some ⟨b1, 0, none⟩), .pointer (some ⟨b2, 0, none⟩)] 212 (0, 0)) from setCell_same G.out 0 _)
          have HH2 := Lib.hid (HH.out.set0 5); have FX2 := Lib.hid (FX.out.again (setCell_keeps W0 b 0 (.int .i64 5)))
          have z1 : (W0.setCell ⟨b, 0, none⟩ (.int .i64 5)).cell? ⟨b1, 0, none⟩ = some (.int .i64 l1) := (World.cell?_setCell_other _ _ _ _ (nea n1)).trans x1
          have z2 : (W0.setCell ⟨b, 0, none⟩ (.int .i64 5)).cell? ⟨b2, 0, none⟩ = some (.int .i64 l2) := (World.cell?_setCell_other _ _ _ _ (nea n2)).trans x2
          have z3 : (W0.setCell ⟨b, 0, none⟩ (.int .i64 5)).cell? ⟨b3, 0, none⟩ = some (.int .i64 l3) := (World.cell?_setCell_other _ _ _ _ (nea n3)).trans x3
          clear G HH FX f x1 c6 x2 c7 x3 c5 c0 c1
          generalize W0.setCell ⟨b, 0, none⟩ (.int .i64 5) = W1 at *
          have G := G2; have HH := HH2; have FX := FX2; clear G2 HH2 FX2
          have x1 := z1; clear z1
          have x2 := z2; clear z2
          have x3 := z3; clear z3
          have c0 := hcell G.out 0; have c1 := hcell G.out 1; have f := HH.out.f
          have c6 := hcell G.out 6
          have c7 := hcell G.out 7
          have c5 := hcell G.out 5
          go_upto_region 6 with fail
          have G2 := Lib.hid (show (W1.setCell ⟨b, 0, none⟩ (.int .i64 6)).heap[b]? = some (.cells #[.int .i64 6, .int .i64 K, vw, .int .i64 tag, .pointer p0, .pointer (some ⟨b3, 0, none⟩), .pointer (some ⟨b1, 0, none⟩), .pointer (some ⟨b2, 0, none⟩)] 212 (0, 0)) from setCell_same G.out 0 _)
          have HH2 := Lib.hid (HH.out.set0 6); have FX2 := Lib.hid (FX.out.again (setCell_keeps W1 b 0 (.int .i64 6)))
          have z1 : (W1.setCell ⟨b, 0, none⟩ (.int .i64 6)).cell? ⟨b1, 0, none⟩ = some (.int .i64 l1) := (World.cell?_setCell_other _ _ _ _ (nea n1)).trans x1
          have z2 : (W1.setCell ⟨b, 0, none⟩ (.int .i64 6)).cell? ⟨b2, 0, none⟩ = some (.int .i64 l2) := (World.cell?_setCell_other _ _ _ _ (nea n2)).trans x2
          have z3 : (W1.setCell ⟨b, 0, none⟩ (.int .i64 6)).cell? ⟨b3, 0, none⟩ = some (.int .i64 l3) := (World.cell?_setCell_other _ _ _ _ (nea n3)).trans x3
          clear G HH FX f x1 c6 x2 c7 x3 c5 c0 c1
          generalize W1.setCell ⟨b, 0, none⟩ (.int .i64 6) = W2 at *
          have G := G2; have HH := HH2; have FX := FX2; clear G2 HH2 FX2
          have x1 := z1; clear z1
          have x2 := z2; clear z2
          have x3 := z3; clear z3
          have c0 := hcell G.out 0; have c1 := hcell G.out 1; have f := HH.out.f
          have c6 := hcell G.out 6
          have c7 := hcell G.out 7
          have c5 := hcell G.out 5
          go_upto_region 8 with fail
          have G2 := Lib.hid (show (W2.setCell ⟨b, 0, none⟩ (.int .i64 1)).heap[b]? = some (.cells #[.int .i64 1, .int .i64 K, vw, .int .i64 tag, .pointer p0, .pointer (some ⟨b3, 0, none⟩), .pointer (some ⟨b1, 0, none⟩), .pointer (some ⟨b2, 0, none⟩)] 212 (0, 0)) from setCell_same G.out 0 _)
          have HH2 := Lib.hid (HH.out.set0 1); have FX2 := Lib.hid (FX.out.again (setCell_keeps W2 b 0 (.int .i64 1)))
          have z1 : (W2.setCell ⟨b, 0, none⟩ (.int .i64 1)).cell? ⟨b1, 0, none⟩ = some (.int .i64 l1) := (World.cell?_setCell_other _ _ _ _ (nea n1)).trans x1
          have z2 : (W2.setCell ⟨b, 0, none⟩ (.int .i64 1)).cell? ⟨b2, 0, none⟩ = some (.int .i64 l2) := (World.cell?_setCell_other _ _ _ _ (nea n2)).trans x2
          have z3 : (W2.setCell ⟨b, 0, none⟩ (.int .i64 1)).cell? ⟨b3, 0, none⟩ = some (.int .i64 l3) := (World.cell?_setCell_other _ _ _ _ (nea n3)).trans x3
          clear G HH FX f x1 c6 x2 c7 x3 c5 c0 c1
          generalize W2.setCell ⟨b, 0, none⟩ (.int .i64 1) = W3 at *
          have G := G2; have HH := HH2; have FX := FX2; clear G2 HH2 FX2
          have x1 := z1; clear z1
          have x2 := z2; clear z2
          have x3 := z3; clear z3
          have c0 := hcell G.out 0; have c1 := hcell G.out 1; have f := HH.out.f
          have c6 := hcell G.out 6
          have c7 := hcell G.out 7
          have c5 := hcell G.out 5
          go_upto_region 9 with fail
          have G2 := Lib.hid (show (W3.setCell ⟨b, 1, none⟩ (.int .i64 K1)).heap[b]? = some (.cells #[.int .i64 1, .int .i64 K1, vw, .int .i64 tag, .pointer p0, .pointer (some ⟨b3, 0, none⟩), .pointer (some ⟨b1, 0, none⟩), .pointer (some ⟨b2, 0, none⟩)] 212 (0, 0)) from setCell_same G.out 1 _)
          have HH2 := Lib.hid (HH.out.set1 K1); have FX2 := Lib.hid (FX.out.again (setCell_keeps W3 b 1 (.int .i64 K1)))
          have z1 : (W3.setCell ⟨b, 1, none⟩ (.int .i64 K1)).cell? ⟨b1, 0, none⟩ = some (.int .i64 l1) := (World.cell?_setCell_other _ _ _ _ (nea n1)).trans x1
          have z2 : (W3.setCell ⟨b, 1, none⟩ (.int .i64 K1)).cell? ⟨b2, 0, none⟩ = some (.int .i64 l2) := (World.cell?_setCell_other _ _ _ _ (nea n2)).trans x2
          have z3 : (W3.setCell ⟨b, 1, none⟩ (.int .i64 K1)).cell? ⟨b3, 0, none⟩ = some (.int .i64 l3) := (World.cell?_setCell_other _ _ _ _ (nea n3)).trans x3
          clear G HH FX f x1 c6 x2 c7 x3 c5 c0 c1
          generalize W3.setCell ⟨b, 1, none⟩ (.int .i64 K1) = W4 at *
          have G := G2; have HH := HH2; have FX := FX2; clear G2 HH2 FX2
          have x1 := z1; clear z1
          have x2 := z2; clear z2
          have x3 := z3; clear z3
          have c0 := hcell G.out 0; have c1 := hcell G.out 1; have f := HH.out.f
          have c6 := hcell G.out 6
          have c7 := hcell G.out 7
          have c5 := hcell G.out 5
          go_wp2_with fail
          go_end0
          refine ⟨rfl, ?_⟩
          rw [e]
          have hf := HH.out.drop 3 (by simp)
          unfold OnPost onK
          rw [if_pos rfl, if_neg HZ.out, ← HK1.out]
          exact ⟨hf, FX.out⟩
set_option maxRecDepth 10000 in
set_option maxHeartbeats 4000000 in
theorem rhpon4 {W0 : World} {lo b : Nat} {K tag : Int} {way : List (Int × Int × Int)} (b0 : Nat) (d0 : Dg) (b1 : Nat) (d1 : Dg) (b2 : Nat) (d2 : Dg) (b3 : Nat) (d3 : Dg) (h : RHm W0 lo b 3 K way tag [(b0, d0), (b1, d1), (b2, d2), (b3, d3)]) (hK : 0 ≤ K ∧ K < 1000000) :
    Calls Tryz.prog 174 #[.pointer (some ⟨b, 0, none⟩)] W0 fun e w' => e = .returned (.tuple #[]) ∧ OnPost lo b K way tag ([(b0, d0), (b1, d1), (b2, d2), (b3, d3)].dropWhile (fun q => q.2.over)) W0 w' := by
  have FX := Lib.hid (below_fx0 W0 b)
  obtain ⟨vw, p0, p1, p2, p3, g1, g2, g3⟩ := h.ex
  have c0 := hcell g1 0
  have c1 := hcell g1 1
  have f := h.f
  obtain rfl : p0 = some ⟨b0, 0, none⟩ := by simp at g3; first | exact g3 | exact g3.1 | exact g3.2 | exact g3.2.1 | exact g3.2.2 | exact g3.2.2.1 | exact g3.2.2.2
  obtain rfl : p1 = some ⟨b1, 0, none⟩ := by simp at g3; first | exact g3 | exact g3.1 | exact g3.2 | exact g3.2.1 | exact g3.2.2 | exact g3.2.2.1 | exact g3.2.2.2
  obtain rfl : p2 = some ⟨b2, 0, none⟩ := by simp at g3; first | exact g3 | exact g3.1 | exact g3.2 | exact g3.2.1 | exact g3.2.2 | exact g3.2.2.1 | exact g3.2.2.2
  obtain rfl : p3 = some ⟨b3, 0, none⟩ := by simp at g3; first | exact g3 | exact g3.1 | exact g3.2 | exact g3.2.1 | exact g3.2.2 | exact g3.2.2.1 | exact g3.2.2.2
  have c4 := hcell g1 4
  have c6 := hcell g1 6
  have c7 := hcell g1 7
  have c5 := hcell g1 5
  obtain ⟨l0, x0, t0⟩ := h.line (q := (b0, d0)) (by simp)
  have n0 : b0 ≠ b := h.ne (b0, d0) (by simp)
  obtain ⟨o0, ho0⟩ : ∃ o0, o0 = d0.over := ⟨_, rfl⟩
  simp only at t0 x0
  rw [← ho0] at t0
  have HO0 := Lib.hid ho0
  obtain ⟨l1, x1, t1⟩ := h.line (q := (b1, d1)) (by simp)
  have n1 : b1 ≠ b := h.ne (b1, d1) (by simp)
  obtain ⟨o1, ho1⟩ : ∃ o1, o1 = d1.over := ⟨_, rfl⟩
  simp only at t1 x1
  rw [← ho1] at t1
  have HO1 := Lib.hid ho1
  obtain ⟨l2, x2, t2⟩ := h.line (q := (b2, d2)) (by simp)
  have n2 : b2 ≠ b := h.ne (b2, d2) (by simp)
  obtain ⟨o2, ho2⟩ : ∃ o2, o2 = d2.over := ⟨_, rfl⟩
  simp only at t2 x2
  rw [← ho2] at t2
  have HO2 := Lib.hid ho2
  obtain ⟨l3, x3, t3⟩ := h.line (q := (b3, d3)) (by simp)
  have n3 : b3 ≠ b := h.ne (b3, d3) (by simp)
  obtain ⟨o3, ho3⟩ : ∃ o3, o3 = d3.over := ⟨_, rfl⟩
  simp only at t3 x3
  rw [← ho3] at t3
  have HO3 := Lib.hid ho3
  have G := Lib.hid g1; have HH := Lib.hid h; have HKK := Lib.hid hK
  clear h g1 g2 g3 hK ho0 ho1 ho2 ho3
  cases o0
  · have e : [(b0, d0), (b1, d1), (b2, d2), (b3, d3)].dropWhile (fun q => q.2.over) = [(b0, d0), (b1, d1), (b2, d2), (b3, d3)] := by simp only [List.dropWhile, ← HO0.out]
    go_enter Tryz.func174, Tryz.ntmps174
    go_wp2_with fail
    go_end0
    refine ⟨rfl, ?_⟩
    rw [e]
    exact ⟨HH.out.drop 0 (by simp), FX.out⟩
  · cases o1
    · have e : [(b0, d0), (b1, d1), (b2, d2), (b3, d3)].dropWhile (fun q => q.2.over) = [(b1, d1), (b2, d2), (b3, d3)] := by simp only [List.dropWhile, ← HO0.out, ← HO1.out]
      go_enter Tryz.func174, Tryz.ntmps174
      go_upto_region 2 with fail
      have G2 := Lib.hid (show (W0.setCell ⟨b, 0, none⟩ (.int .i64 4)).heap[b]? = some (.cells #[.int .i64 4, .int .i64 K, vw, .int .i64 tag, .pointer (some ⟨b0, 0, none⟩), .pointer (some ⟨b3, 0, none⟩), .pointer (some ⟨b1, 0, none⟩), .pointer (some ⟨b2, 0, none⟩)] 212 (0, 0)) from setCell_same G.out 0 _)
      have HH2 := Lib.hid (HH.out.set0 4); have FX2 := Lib.hid (FX.out.again (setCell_keeps W0 b 0 (.int .i64 4)))
      have z0 : (W0.setCell ⟨b, 0, none⟩ (.int .i64 4)).cell? ⟨b0, 0, none⟩ = some (.int .i64 l0) := (World.cell?_setCell_other _ _ _ _ (nea n0)).trans x0
      have z1 : (W0.setCell ⟨b, 0, none⟩ (.int .i64 4)).cell? ⟨b1, 0, none⟩ = some (.int .i64 l1) := (World.cell?_setCell_other _ _ _ _ (nea n1)).trans x1
      have z2 : (W0.setCell ⟨b, 0, none⟩ (.int .i64 4)).cell? ⟨b2, 0, none⟩ = some (.int .i64 l2) := (World.cell?_setCell_other _ _ _ _ (nea n2)).trans x2
      have z3 : (W0.setCell ⟨b, 0, none⟩ (.int .i64 4)).cell? ⟨b3, 0, none⟩ = some (.int .i64 l3) := (World.cell?_setCell_other _ _ _ _ (nea n3)).trans x3
      clear G HH FX f x0 c4 x1 c6 x2 c7 x3 c5 c0 c1
      generalize W0.setCell ⟨b, 0, none⟩ (.int .i64 4) = W1 at *
      have G := G2; have HH := HH2; have FX := FX2; clear G2 HH2 FX2
      have x0 := z0; clear z0
      have x1 := z1; clear z1
      have x2 := z2; clear z2
      have x3 := z3; clear z3
      have c0 := hcell G.out 0; have c1 := hcell G.out 1; have f := HH.out.f
      have c4 := hcell G.out 4
      have c6 := hcell G.out 6
      have c7 := hcell G.out 7
      have c5 := hcell G.out 5
      go_wp2_with fail
      go_end0
      refine ⟨rfl, ?_⟩
      rw [e]
      exact ⟨HH.out.drop 1 (by simp), FX.out⟩
    · cases o2
      · have e : [(b0, d0), (b1, d1), (b2, d2), (b3, d3)].dropWhile (fun q => q.2.over) = [(b2, d2), (b3, d3)] := by simp only [List.dropWhile, ← HO0.out, ← HO1.out, ← HO2.out]
        go_enter Tryz.func174, Tryz.ntmps174
        go_upto_region 2 with fail
        have G2 := Lib.hid (show (W0.setCell ⟨b, 0, none⟩ (.int .i64 4)).heap[b]? = some (.cells #[.int .i64 4, .int .i64 K, vw, .int .i64 tag, .pointer (some ⟨b0, 0, none⟩), .pointer (some ⟨b3, 0, none⟩), .pointer (some ⟨b1, 0, none⟩), .pointer (some ⟨b2, 0, none⟩)] 212 (0, 0)) from setCell_same G.out 0 _)
        have HH2 := Lib.hid (HH.out.set0 4); have FX2 := Lib.hid (FX.out.again (setCell_keeps W0 b 0 (.int .i64 4)))
        have z0 : (W0.setCell ⟨b, 0, none⟩ (.int .i64 4)).cell? ⟨b0, 0, none⟩ = some (.int .i64 l0) := (World.cell?_setCell_other _ _ _ _ (nea n0)).trans x0
        have z1 : (W0.setCell ⟨b, 0, none⟩ (.int .i64 4)).cell? ⟨b1, 0, none⟩ = some (.int .i64 l1) := (World.cell?_setCell_other _ _ _ _ (nea n1)).trans x1
        have z2 : (W0.setCell ⟨b, 0, none⟩ (.int .i64 4)).cell? ⟨b2, 0, none⟩ = some (.int .i64 l2) := (World.cell?_setCell_other _ _ _ _ (nea n2)).trans x2
        have z3 : (W0.setCell ⟨b, 0, none⟩ (.int .i64 4)).cell? ⟨b3, 0, none⟩ = some (.int .i64 l3) := (World.cell?_setCell_other _ _ _ _ (nea n3)).trans x3
        clear G HH FX f x0 c4 x1 c6 x2 c7 x3 c5 c0 c1
        generalize W0.setCell ⟨b, 0, none⟩ (.int .i64 4) = W1 at *
        have G := G2; have HH := HH2; have FX := FX2; clear G2 HH2 FX2
        have x0 := z0; clear z0
        have x1 := z1; clear z1
        have x2 := z2; clear z2
        have x3 := z3; clear z3
        have c0 := hcell G.out 0; have c1 := hcell G.out 1; have f := HH.out.f
        have c4 := hcell G.out 4
        have c6 := hcell G.out 6
        have c7 := hcell G.out 7
        have c5 := hcell G.out 5
        go_upto_region 4 with fail
        have G2 := Lib.hid (show (W1.setCell ⟨b, 0, none⟩ (.int .i64 5)).heap[b]? = some (.cells #[.int .i64 5, .int .i64 K, vw, .int .i64 tag, .pointer (some ⟨b0, 0, none⟩), .pointer (some ⟨b3, 0, none⟩), .pointer (some ⟨b1, 0, none⟩), .pointer (some ⟨b2, 0, none⟩)] 212 (0, 0)) from setCell_same G.out 0 _)
        have HH2 := Lib.hid (HH.out.set0 5); have FX2 := Lib.hid (FX.out.again (setCell_keeps W1 b 0 (.int .i64 5)))
        have z0 : (W1.setCell ⟨b, 0, none⟩ (.int .i64 5)).cell? ⟨b0, 0, none⟩ = some (.int .i64 l0) := (World.cell?_setCell_other _ _ _ _ (nea n0)).trans x0
        have z1 : (W1.setCell ⟨b, 0, none⟩ (.int .i64 5)).cell? ⟨b1, 0, none⟩ = some (.int .i64 l1) := (World.cell?_setCell_other _ _ _ _ (nea n1)).trans x1
        have z2 : (W1.setCell ⟨b, 0, none⟩ (.int .i64 5)).cell? ⟨b2, 0, none⟩ = some (.int .i64 l2) := (World.cell?_setCell_other _ _ _ _ (nea n2)).trans x2
        have z3 : (W1.setCell ⟨b, 0, none⟩ (.int .i64 5)).cell? ⟨b3, 0, none⟩ = some (.int .i64 l3) := (World.cell?_setCell_other _ _ _ _ (nea n3)).trans x3
        clear G HH FX f x0 c4 x1 c6 x2 c7 x3 c5 c0 c1
        generalize W1.setCell ⟨b, 0, none⟩ (.int .i64 5) = W2 at *
        have G := G2; have HH := HH2; have FX := FX2; clear G2 HH2 FX2
        have x0 := z0; clear z0
        have x1 := z1; clear z1
        have x2 := z2; clear z2
        have x3 := z3; clear z3
        have c0 := hcell G.out 0; have c1 := hcell G.out 1; have f := HH.out.f
        have c4 := hcell G.out 4
        have c6 := hcell G.out 6
        have c7 := hcell G.out 7
        have c5 := hcell G.out 5
        go_wp2_with fail
        go_end0
        refine ⟨rfl, ?_⟩
        rw [e]
        exact ⟨HH.out.drop 2 (by simp), FX.out⟩
      · cases o3
        · have e : [(b0, d0), (b1, d1), (b2, d2), (b3, d3)].dropWhile (fun q => q.2.over) = [(b3, d3)] := by simp only [List.dropWhile, ← HO0.out, ← HO1.out, ← HO2.out, ← HO3.out]
          go_enter Tryz.func174, Tryz.ntmps174
          go_upto_region 2 with fail
          have G2 := Lib.hid (show (W0.setCell ⟨b, 0, none⟩ (.int .i64 4)).heap[b]? = some (.cells #[.int .i64 4, .int .i64 K, vw, .int .i64 tag, .pointer (some ⟨b0, 0, none⟩), .pointer (some ⟨b3, 0, none⟩), .pointer (some ⟨b1, 0, none⟩), .pointer (some ⟨b2, 0, none⟩)] 212 (0, 0)) from setCell_same G.out 0 _)
          have HH2 := Lib.hid (HH.out.set0 4); have FX2 := Lib.hid (FX.out.again (setCell_keeps W0 b 0 (.int .i64 4)))
          have z0 : (W0.setCell ⟨b, 0, none⟩ (.int .i64 4)).cell? ⟨b0, 0, none⟩ = some (.int .i64 l0) := (World.cell?_setCell_other _ _ _ _ (nea n0)).trans x0
          have z1 : (W0.setCell ⟨b, 0, none⟩ (.int .i64 4)).cell? ⟨b1, 0, none⟩ = some (.int .i64 l1) := (World.cell?_setCell_other _ _ _ _ (nea n1)).trans x1
          have z2 : (W0.setCell ⟨b, 0, none⟩ (.int .i64 4)).cell? ⟨b2, 0, none⟩ = some (.int .i64 l2) := (World.cell?_setCell_other _ _ _ _ (nea n2)).trans x2
          have z3 : (W0.setCell ⟨b, 0, none⟩ (.int .i64 4)).cell? ⟨b3, 0, none⟩ = some (.int .i64 l3) := (World.cell?_setCell_other _ _ _ _ (nea n3)).trans x3
          clear G HH FX f x0 c4 x1 c6 x2 c7 x3 c5 c0 c1
          generalize W0.setCell ⟨b, 0, none⟩ (.int .i64 4) = W1 at *
          have G := G2; have HH := HH2; have FX := FX2; clear G2 HH2 FX2
          have x0 := z0; clear z0
          have x1 := z1; clear z1
          have x2 := z2; clear z2
          have x3 := z3; clear z3
          have c0 := hcell G.out 0; have c1 := hcell G.out 1; have f := HH.out.f
          have c4 := hcell G.out 4
          have c6 := hcell G.out 6
          have c7 := hcell G.out 7
          have c5 := hcell G.out 5
          go_upto_region 4 with fail
          have G2 := Lib.hid (show (W1.setCell ⟨b, 0, none⟩ (.int .i64 5)).heap[b]? = some (.cells #[.int .i64 5, .int .i64 K, vw, .int .i64 tag, .pointer (some ⟨b0, 0, none⟩), .pointer (some ⟨b3, 0, none⟩), .pointer (some ⟨b1, 0, none⟩), .pointer (some ⟨b2, 0, none⟩)] 212 (0, 0)) from setCell_same G.out 0 _)
          have HH2 := Lib.hid (HH.out.set0 5); have FX2 := Lib.hid (FX.out.again (setCell_keeps W1 b 0 (.int .i64 5)))
          have z0 : (W1.setCell ⟨b, 0, none⟩ (.int .i64 5)).cell? ⟨b0, 0, none⟩ = some (.int .i64 l0) := (World.cell?_setCell_other _ _ _ _ (nea n0)).trans x0
          have z1 : (W1.setCell ⟨b, 0, none⟩ (.int .i64 5)).cell? ⟨b1, 0, none⟩ = some (.int .i64 l1) := (World.cell?_setCell_other _ _ _ _ (nea n1)).trans x1
          have z2 : (W1.setCell ⟨b, 0, none⟩ (.int .i64 5)).cell? ⟨b2, 0, none⟩ = some (.int .i64 l2) := (World.cell?_setCell_other _ _ _ _ (nea n2)).trans x2
          have z3 : (W1.setCell ⟨b, 0, none⟩ (.int .i64 5)).cell? ⟨b3, 0, none⟩ = some (.int .i64 l3) := (World.cell?_setCell_other _ _ _ _ (nea n3)).trans x3
          clear G HH FX f x0 c4 x1 c6 x2 c7 x3 c5 c0 c1
          generalize W1.setCell ⟨b, 0, none⟩ (.int .i64 5) = W2 at *
          have G := G2; have HH := HH2; have FX := FX2; clear G2 HH2 FX2
          have x0 := z0; clear z0
          have x1 := z1; clear z1
          have x2 := z2; clear z2
          have x3 := z3; clear z3
          have c0 := hcell G.out 0; have c1 := hcell G.out 1; have f := HH.out.f
          have c4 := hcell G.out 4
          have c6 := hcell G.out 6
          have c7 := hcell G.out 7
          have c5 := hcell G.out 5
          go_upto_region 6 with fail
          have G2 := Lib.hid (show (W2.setCell ⟨b, 0, none⟩ (.int .i64 6)).heap[b]? = some (.cells #[.int .i64 6, .int .i64 K, vw, .int .i64 tag, .pointer (some ⟨b0, 0, none⟩), .pointer (some ⟨b3, 0, none⟩), .pointer (some ⟨b1, 0, none⟩), .pointer (some ⟨b2, 0, none⟩)] 212 (0, 0)) from setCell_same G.out 0 _)
          have HH2 := Lib.hid (HH.out.set0 6); have FX2 := Lib.hid (FX.out.again (setCell_keeps W2 b 0 (.int .i64 6)))
          have z0 : (W2.setCell ⟨b, 0, none⟩ (.int .i64 6)).cell? ⟨b0, 0, none⟩ = some (.int .i64 l0) := (World.cell?_setCell_other _ _ _ _ (nea n0)).trans x0
          have z1 : (W2.setCell ⟨b, 0, none⟩ (.int .i64 6)).cell? ⟨b1, 0, none⟩ = some (.int .i64 l1) := (World.cell?_setCell_other _ _ _ _ (nea n1)).trans x1
          have z2 : (W2.setCell ⟨b, 0, none⟩ (.int .i64 6)).cell? ⟨b2, 0, none⟩ = some (.int .i64 l2) := (World.cell?_setCell_other _ _ _ _ (nea n2)).trans x2
          have z3 : (W2.setCell ⟨b, 0, none⟩ (.int .i64 6)).cell? ⟨b3, 0, none⟩ = some (.int .i64 l3) := (World.cell?_setCell_other _ _ _ _ (nea n3)).trans x3
          clear G HH FX f x0 c4 x1 c6 x2 c7 x3 c5 c0 c1
          generalize W2.setCell ⟨b, 0, none⟩ (.int .i64 6) = W3 at *
          have G := G2; have HH := HH2; have FX := FX2; clear G2 HH2 FX2
          have x0 := z0; clear z0
          have x1 := z1; clear z1
          have x2 := z2; clear z2
          have x3 := z3; clear z3
          have c0 := hcell G.out 0; have c1 := hcell G.out 1; have f := HH.out.f
          have c4 := hcell G.out 4
          have c6 := hcell G.out 6
          have c7 := hcell G.out 7
          have c5 := hcell G.out 5
          go_wp2_with fail
          go_end0
          refine ⟨rfl, ?_⟩
          rw [e]
          exact ⟨HH.out.drop 3 (by simp), FX.out⟩
        · have e : [(b0, d0), (b1, d1), (b2, d2), (b3, d3)].dropWhile (fun q => q.2.over) = [] := by simp only [List.dropWhile, ← HO0.out, ← HO1.out, ← HO2.out, ← HO3.out]
          obtain ⟨K1, hK1⟩ : ∃ K1, K1 = K - 1 := ⟨_, rfl⟩
          have ew : wrap64 (K - 1) = K1 := by have := HKK.out; rw [hK1]; exact IntWalk.wrap64_in _ (by omega)
          have HK1 := Lib.hid hK1
          by_cases hz : K = 0
          · have q1 : decide (K1 < 0) = true := decide_eq_true (by have := HKK.out; omega)
            have HZ := Lib.hid hz
            clear hz hK1
            go_enter Tryz.func174, Tryz.ntmps174
            go_upto_region 2 with fail
            have G2 := Lib.hid (show (W0.setCell ⟨b, 0, none⟩ (.int .i64 4)).heap[b]? = some (.cells #[.int .i64 4, .int .i64 K, vw, .int .i64 tag, .pointer (some ⟨b0, 0, none⟩), .pointer (some ⟨b3, 0, none⟩), .pointer (some ⟨b1, 0, none⟩), .pointer (some ⟨b2, 0, none⟩)] 212 (0, 0)) from setCell_same G.out 0 _)
            have HH2 := Lib.hid (HH.out.set0 4); have FX2 := Lib.hid (FX.out.again (setCell_keeps W0 b 0 (.int .i64 4)))
            have z0 : (W0.setCell ⟨b, 0, none⟩ (.int .i64 4)).cell? ⟨b0, 0, none⟩ = some (.int .i64 l0) := (World.cell?_setCell_other _ _ _ _ (nea n0)).trans x0
            have z1 : (W0.setCell ⟨b, 0, none⟩ (.int .i64 4)).cell? ⟨b1, 0, none⟩ = some (.int .i64 l1) := (World.cell?_setCell_other _ _ _ _ (nea n1)).trans x1
            have z2 : (W0.setCell ⟨b, 0, none⟩ (.int .i64 4)).cell? ⟨b2, 0, none⟩ = some (.int .i64 l2) := (World.cell?_setCell_other _ _ _ _ (nea n2)).trans x2
            have z3 : (W0.setCell ⟨b, 0, none⟩ (.int .i64 4)).cell? ⟨b3, 0, none⟩ = some (.int .i64 l3) := (World.cell?_setCell_other _ _ _ _ (nea n3)).trans x3
            clear G HH FX f x0 c4 x1 c6 x2 c7 x3 c5 c0 c1
            generalize W0.setCell ⟨b, 0, none⟩ (.int .i64 4) = W1 at *
            have G := G2; have HH := HH2; have FX := FX2; clear G2 HH2 FX2
            have x0 := z0; clear z0
            have x1 := z1; clear z1
            have x2 := z2; clear z2
            have x3 := z3; clear z3
            have c0 := hcell G.out 0; have c1 := hcell G.out 1; have f := HH.out.f
            have c4 := hcell G.out 4
            have c6 := hcell G.out 6
            have c7 := hcell G.out 7
            have c5 := hcell G.out 5
            go_upto_region 4 with fail
            have G2 := Lib.hid (show (W1.setCell ⟨b, 0, none⟩ (.int .i64 5)).heap[b]? = some (.cells #[.int .i64 5, .int .i64 K, vw, .int .i64 tag, .pointer (some ⟨b0, 0, none⟩), .pointer (some ⟨b3, 0, none⟩), .pointer (some ⟨b1, 0, none⟩), .pointer (some ⟨b2, 0, none⟩)] 212 (0, 0)) from setCell_same G.out 0 _)
            have HH2 := Lib.hid (HH.out.set0 5); have FX2 := Lib.hid (FX.out.again (setCell_keeps W1 b 0 (.int .i64 5)))
            have z0 : (W1.setCell ⟨b, 0, none⟩ (.int .i64 5)).cell? ⟨b0, 0, none⟩ = some (.int .i64 l0) := (World.cell?_setCell_other _ _ _ _ (nea n0)).trans x0
            have z1 : (W1.setCell ⟨b, 0, none⟩ (.int .i64 5)).cell? ⟨b1, 0, none⟩ = some (.int .i64 l1) := (World.cell?_setCell_other _ _ _ _ (nea n1)).trans x1
            have z2 : (W1.setCell ⟨b, 0, none⟩ (.int .i64 5)).cell? ⟨b2, 0, none⟩ = some (.int .i64 l2) := (World.cell?_setCell_other _ _ _ _ (nea n2)).trans x2
            have z3 : (W1.setCell ⟨b, 0, none⟩ (.int .i64 5)).cell? ⟨b3, 0, none⟩ = some (.int .i64 l3) := (World.cell?_setCell_other _ _ _ _ (nea n3)).trans x3
            clear G HH FX f x0 c4 x1 c6 x2 c7 x3 c5 c0 c1
            generalize W1.setCell ⟨b, 0, none⟩ (.int .i64 5) = W2 at *
            have G := G2; have HH := HH2; have FX := FX2; clear G2 HH2 FX2
            have x0 := z0; clear z0
            have x1 := z1; clear z1
            have x2 := z2; clear z2
            have x3 := z3; clear z3
            have c0 := hcell G.out 0; have c1 := hcell G.out 1; have f := HH.out.f
            have c4 := hcell G.out 4
            have c6 := hcell G.out 6
            have c7 := hcell G.out 7
            have c5 := hcell G.out 5
            go_upto_region 6 with fail
            have G2 := Lib.hid (show (W2.setCell ⟨b, 0, none⟩ (.int .i64 6)).heap[b]? = some (.cells #[.int .i64 6, .int .i64 K, vw, .int .i64 tag, .pointer (some ⟨b0, 0, none⟩), .pointer (some ⟨b3, 0, none⟩), .pointer (some ⟨b1, 0, none⟩), .pointer (some ⟨b2, 0, none⟩)] 212 (0, 0)) from setCell_same G.out 0 _)
            have HH2 := Lib.hid (HH.out.set0 6); have FX2 := Lib.hid (FX.out.again (setCell_keeps W2 b 0 (.int .i64 6)))
            have z0 : (W2.setCell ⟨b, 0, none⟩ (.int .i64 6)).cell? ⟨b0, 0, none⟩ = some (.int .i64 l0) := (World.cell?_setCell_other _ _ _ _ (nea n0)).trans x0
            have z1 : (W2.setCell ⟨b, 0, none⟩ (.int .i64 6)).cell? ⟨b1, 0, none⟩ = some (.int .i64 l1) := (World.cell?_setCell_other _ _ _ _ (nea n1)).trans x1
            have z2 : (W2.setCell ⟨b, 0, none⟩ (.int .i64 6)).cell? ⟨b2, 0, none⟩ = some (.int .i64 l2) := (World.cell?_setCell_other _ _ _ _ (nea n2)).trans x2
            have z3 : (W2.setCell ⟨b, 0, none⟩ (.int .i64 6)).cell? ⟨b3, 0, none⟩ = some (.int .i64 l3) := (World.cell?_setCell_other _ _ _ _ (nea n3)).trans x3
            clear G HH FX f x0 c4 x1 c6 x2 c7 x3 c5 c0 c1
            generalize W2.setCell ⟨b, 0, none⟩ (.int .i64 6) = W3 at *
            have G := G2; have HH := HH2; have FX := FX2; clear G2 HH2 FX2
            have x0 := z0; clear z0
            have x1 := z1; clear z1
            have x2 := z2; clear z2
            have x3 := z3; clear z3
            have c0 := hcell G.out 0; have c1 := hcell G.out 1; have f := HH.out.f
            have c4 := hcell G.out 4
            have c6 := hcell G.out 6
            have c7 := hcell G.out 7
            have c5 := hcell G.out 5
            go_upto_region 8 with fail
            have G2 := Lib.hid (show (W3.setCell ⟨b, 0, none⟩ (.int .i64 1)).heap[b]? = some (.cells #[.int .i64 1, .int .i64 K, vw, .int .i64 tag, .pointer (some ⟨b0, 0, none⟩), .pointer (some ⟨b3, 0, none⟩), .pointer (some ⟨b1, 0, none⟩), .pointer (some ⟨b2, 0, none⟩)] 212 (0, 0)) from setCell_same G.out 0 _)
            have HH2 := Lib.hid (HH.out.set0 1); have FX2 := Lib.hid (FX.out.again (setCell_keeps W3 b 0 (.int .i64 1)))
            have z0 : (W3.setCell ⟨b, 0, none⟩ (.int .i64 1)).cell? ⟨b0, 0, none⟩ = some (.int .i64 l0) := (World.cell?_setCell_other _ _ _ _ (nea n0)).trans x0
            have z1 : (W3.setCell ⟨b, 0, none⟩ (.int .i64 1)).cell? ⟨b1, 0, none⟩ = some (.int .i64 l1) := (World.cell?_setCell_other _ _ _ _ (nea n1)).trans x1
            have z2 : (W3.setCell ⟨b, 0, none⟩ (.int .i64 1)).cell? ⟨b2, 0, none⟩ = some (.int .i64 l2) := (World.cell?_setCell_other _ _ _ _ (nea n2)).trans x2
            have z3 : (W3.setCell ⟨b, 0, none⟩ (.int .i64 1)).cell? ⟨b3, 0, none⟩ = some (.int .i64 l3) := (World.cell?_setCell_other _ _ _ _ (nea n3)).trans x3
            clear G HH FX f x0 c4 x1 c6 x2 c7 x3 c5 c0 c1
            generalize W3.setCell ⟨b, 0, none⟩ (.int .i64 1) = W4 at *
            have G := G2; have HH := HH2; have FX := FX2; clear G2 HH2 FX2
            have x0 := z0; clear z0
            have x1 := z1; clear z1
            have x2 := z2; clear z2
            have x3 := z3; clear z3
            have c0 := hcell G.out 0; have c1 := hcell G.out 1; have f := HH.out.f
            have c4 := hcell G.out 4
            have c6 := hcell G.out 6
            have c7 := hcell G.out 7
            have c5 := hcell G.out 5
            go_upto_region 9 with fail
            have G2 := Lib.hid (show (W4.setCell ⟨b, 1, none⟩ (.int .i64 K1)).heap[b]? = some (.cells #[.int .i64 1, .int .i64 K1, vw, .int .i64 tag, .pointer (some ⟨b0, 0, none⟩), .pointer (some ⟨b3, 0, none⟩), .pointer (some ⟨b1, 0, none⟩), .pointer (some ⟨b2, 0, none⟩)] 212 (0, 0)) from setCell_same G.out 1 _)
            have HH2 := Lib.hid (HH.out.set1 K1); have FX2 := Lib.hid (FX.out.again (setCell_keeps W4 b 1 (.int .i64 K1)))
            have z0 : (W4.setCell ⟨b, 1, none⟩ (.int .i64 K1)).cell? ⟨b0, 0, none⟩ = some (.int .i64 l0) := (World.cell?_setCell_other _ _ _ _ (nea n0)).trans x0
            have z1 : (W4.setCell ⟨b, 1, none⟩ (.int .i64 K1)).cell? ⟨b1, 0, none⟩ = some (.int .i64 l1) := (World.cell?_setCell_other _ _ _ _ (nea n1)).trans x1
            have z2 : (W4.setCell ⟨b, 1, none⟩ (.int .i64 K1)).cell? ⟨b2, 0, none⟩ = some (.int .i64 l2) := (World.cell?_setCell_other _ _ _ _ (nea n2)).trans x2
            have z3 : (W4.setCell ⟨b, 1, none⟩ (.int .i64 K1)).cell? ⟨b3, 0, none⟩ = some (.int .i64 l3) := (World.cell?_setCell_other _ _ _ _ (nea n3)).trans x3
            clear G HH FX f x0 c4 x1 c6 x2 c7 x3 c5 c0 c1
            generalize W4.setCell ⟨b, 1, none⟩ (.int .i64 K1) = W5 at *
            have G := G2; have HH := HH2; have FX := FX2; clear G2 HH2 FX2
            have x0 := z0; clear z0
            have x1 := z1; clear z1
            have x2 := z2; clear z2
            have x3 := z3; clear z3
            have c0 := hcell G.out 0; have c1 := hcell G.out 1; have f := HH.out.f
            have c4 := hcell G.out 4
            have c6 := hcell G.out 6
            have c7 := hcell G.out 7
            have c5 := hcell G.out 5
            go_wp2_with fail
            go_end0
            refine ⟨rfl, ?_⟩
            rw [e]
            have hf := (HH.out.set0 0).drop 4 (by simp)
            unfold OnPost onK
            rw [if_pos rfl, if_pos HZ.out, ← HK1.out]
            exact ⟨hf, (FX.out.again (setCell_keeps _ _ _ _))⟩
          · have q1 : decide (K1 < 0) = false := decide_eq_false (by have := HKK.out; omega)
            have HZ := Lib.hid hz
            clear hz hK1
            go_enter Tryz.func174, Tryz.ntmps174
            go_upto_region 2 with fail
            have G2 := Lib.hid (show (W0.setCell ⟨b, 0, none⟩ (.int .i64 4)).heap[b]? = some (.cells #[.int .i64 4, .int .i64 K, vw, .int .i64 tag, .pointer (some ⟨b0, 0, none⟩), .pointer (some ⟨b3, 0, none⟩), .pointer (some ⟨b1, 0, none⟩), .pointer (some ⟨b2, 0, none⟩)] 212 (0, 0)) from setCell_same G.out 0 _)
            have HH2 := Lib.hid (HH.out.set0 4); have FX2 := Lib.hid (FX.out.again (setCell_keeps W0 b 0 (.int .i64 4)))
            have z0 : (W0.setCell ⟨b, 0, none⟩ (.int .i64 4)).cell? ⟨b0, 0, none⟩ = some (.int .i64 l0) := (World.cell?_setCell_other _ _ _ _ (nea n0)).trans x0
            have z1 : (W0.setCell ⟨b, 0, none⟩ (.int .i64 4)).cell? ⟨b1, 0, none⟩ = some (.int .i64 l1) := (World.cell?_setCell_other _ _ _ _ (nea n1)).trans x1
            have z2 : (W0.setCell ⟨b, 0, none⟩ (.int .i64 4)).cell? ⟨b2, 0, none⟩ = some (.int .i64 l2) := (World.cell?_setCell_other _ _ _ _ (nea n2)).trans x2
            have z3 : (W0.setCell ⟨b, 0, none⟩ (.int .i64 4)).cell? ⟨b3, 0, none⟩ = some (.int .i64 l3) := (World.cell?_setCell_other _ _ _ _ (nea n3)).trans x3
            clear G HH FX f x0 c4 x1 c6 x2 c7 x3 c5 c0 c1
            generalize W0.setCell ⟨b, 0, none⟩ (.int .i64 4) = W1 at *
            have G := G2; have HH := HH2; have FX := FX2; clear G2 HH2 FX2
            have x0 := z0; clear z0
            have x1 := z1; clear z1
            have x2 := z2; clear z2
            have x3 := z3; clear z3
            have c0 := hcell G.out 0; have c1 := hcell G.out 1; have f := HH.out.f
            have c4 := hcell G.out 4
            have c6 := hcell G.out 6
            have c7 := hcell G.out 7
            have c5 := hcell G.out 5
            go_upto_region 4 with fail
            have G2 := Lib.hid (show (W1.setCell ⟨b, 0, none⟩ (.int .i64 5)).heap[b]? = some (.cells #[.int .i64 5, .int .i64 K, vw, .int .i64 tag, .pointer (some ⟨b0, 0, none⟩), .pointer (some ⟨b3, 0, none⟩), .pointer (some ⟨b1, 0, none⟩), .pointer (some ⟨b2, 0, none⟩)] 212 (0, 0)) from setCell_same G.out 0 _)
            have HH2 := Lib.hid (HH.out.set0 5); have FX2 := Lib.hid (FX.out.again (setCell_keeps W1 b 0 (.int .i64 5)))
            have z0 : (W1.setCell ⟨b, 0, none⟩ (.int .i64 5)).cell? ⟨b0, 0, none⟩ = some (.int .i64 l0) := (World.cell?_setCell_other _ _ _ _ (nea n0)).trans x0
            have z1 : (W1.setCell ⟨b, 0, none⟩ (.int .i64 5)).cell? ⟨b1, 0, none⟩ = some (.int .i64 l1) := (World.cell?_setCell_other _ _ _ _ (nea n1)).trans x1
            have z2 : (W1.setCell ⟨b, 0, none⟩ (.int .i64 5)).cell? ⟨b2, 0, none⟩ = some (.int .i64 l2) := (World.cell?_setCell_other _ _ _ _ (nea n2)).trans x2
            have z3 : (W1.setCell ⟨b, 0, none⟩ (.int .i64 5)).cell? ⟨b3, 0, none⟩ = some (.int .i64 l3) := (World.cell?_setCell_other _ _ _ _ (nea n3)).trans x3
            clear G HH FX f x0 c4 x1 c6 x2 c7 x3 c5 c0 c1
            generalize W1.setCell ⟨b, 0, none⟩ (.int .i64 5) = W2 at *
            have G := G2; have HH := HH2; have FX := FX2; clear G2 HH2 FX2
            have x0 := z0; clear z0
            have x1 := z1; clear z1
            have x2 := z2; clear z2
            have x3 := z3; clear z3
            have c0 := hcell G.out 0; have c1 := hcell G.out 1; have f := HH.out.f
            have c4 := hcell G.out 4
            have c6 := hcell G.out 6
            have c7 := hcell G.out 7
            have c5 := hcell G.out 5
            go_upto_region 6 with fail
            have G2 := Lib.hid (show (W2.setCell ⟨b, 0, none⟩ (.int .i64 6)).heap[b]? = some (.cells #[.int .i64 6, .int .i64 K, vw, .int .i64 tag, .pointer (some ⟨b0, 0, none⟩), .pointer (some ⟨b3, 0, none⟩), .pointer (some ⟨b1, 0, none⟩), .pointer (some ⟨b2, 0, none⟩)] 212 (0, 0)) from setCell_same G.out 0 _)
            have HH2 := Lib.hid (HH.out.set0 6); have FX2 := Lib.hid (FX.out.again (setCell_keeps W2 b 0 (.int .i64 6)))
            have z0 : (W2.setCell ⟨b, 0, none⟩ (.int .i64 6)).cell? ⟨b0, 0, none⟩ = some (.int .i64 l0) := (World.cell?_setCell_other _ _ _ _ (nea n0)).trans x0
            have z1 : (W2.setCell ⟨b, 0, none⟩ (.int .i64 6)).cell? ⟨b1, 0, none⟩ = some (.int .i64 l1) := (World.cell?_setCell_other _ _ _ _ (nea n1)).trans x1
            have z2 : (W2.setCell ⟨b, 0, none⟩ (.int .i64 6)).cell? ⟨b2, 0, none⟩ = some (.int .i64 l2) := (World.cell?_setCell_other _ _ _ _ (nea n2)).trans x2
            have z3 : (W2.setCell ⟨b, 0, none⟩ (.int .i64 6)).cell? ⟨b3, 0, none⟩ = some (.int .i64 l3) := (World.cell?_setCell_other _ _ _ _ (nea n3)).trans x3
            clear G HH FX f x0 c4 x1 c6 x2 c7 x3 c5 c0 c1
            generalize W2.setCell ⟨b, 0, none⟩ (.int .i64 6) = W3 at *
            have G := G2; have HH := HH2; have FX := FX2; clear G2 HH2 FX2
            have x0 := z0; clear z0
            have x1 := z1; clear z1
            have x2 := z2; clear z2
            have x3 := z3; clear z3
            have c0 := hcell G.out 0; have c1 := hcell G.out 1; have f := HH.out.f
            have c4 := hcell G.out 4
            have c6 := hcell G.out 6
            have c7 := hcell G.out 7
            have c5 := hcell G.out 5
            go_upto_region 8 with fail
            have G2 := Lib.hid (show (W3.setCell ⟨b, 0, none⟩ (.int .i64 1)).heap[b]? = some (.cells #[.int .i64 1, .int .i64 K, vw, .int .i64 tag, .pointer (some ⟨b0, 0, none⟩), .pointer (some ⟨b3, 0, none⟩), .pointer (some ⟨b1, 0, none⟩), .pointer (some ⟨b2, 0, none⟩)] 212 (0, 0)) from setCell_same G.out 0 _)
            have HH2 := Lib.hid (HH.out.set0 1); have FX2 := Lib.hid (FX.out.again (setCell_keeps W3 b 0 (.int .i64 1)))
            have z0 : (W3.setCell ⟨b, 0, none⟩ (.int .i64 1)).cell? ⟨b0, 0, none⟩ = some (.int .i64 l0) := (World.cell?_setCell_other _ _ _ _ (nea n0)).trans x0
            have z1 : (W3.setCell ⟨b, 0, none⟩ (.int .i64 1)).cell? ⟨b1, 0, none⟩ = some (.int .i64 l1) := (World.cell?_setCell_other _ _ _ _ (nea n1)).trans x1
            have z2 : (W3.setCell ⟨b, 0, none⟩ (.int .i64 1)).cell? ⟨b2, 0, none⟩ = some (.int .i64 l2) := (World.cell?_setCell_other _ _ _ _ (nea n2)).trans x2
            have z3 : (W3.setCell ⟨b, 0, none⟩ (.int .i64 1)).cell? ⟨b3, 0, none⟩ = some (.int .i64 l3) := (World.cell?_setCell_other _ _ _ _ (nea n3)).trans x3
            clear G HH FX f x0 c4 x1 c6 x2 c7 x3 c5 c0 c1
            generalize W3.setCell ⟨b, 0, none⟩ (.int .i64 1) = W4 at *
            have G := G2; have HH := HH2; have FX := FX2; clear G2 HH2 FX2
            have x0 := z0; clear z0
            have x1 := z1; clear z1
            have x2 := z2; clear z2
            have x3 := z3; clear z3
            have c0 := hcell G.out 0; have c1 := hcell G.out 1; have f := HH.out.f
            have c4 := hcell G.out 4
            have c6 := hcell G.out 6
            have c7 := hcell G.out 7
            have c5 := hcell G.out 5
            go_upto_region 9 with fail
            have G2 := Lib.hid (show (W4.setCell ⟨b, 1, none⟩ (.int .i64 K1)).heap[b]? = some (.cells #[.int .i64 1, .int .i64 K1, vw, .int .i64 tag, .pointer (some ⟨b0, 0, none⟩), .pointer (some ⟨b3, 0, none⟩), .pointer (some ⟨b1, 0, none⟩), .pointer (some ⟨b2, 0, none⟩)] 212 (0, 0)) from setCell_same G.out 1 _)
            have HH2 := Lib.hid (HH.out.set1 K1); have FX2 := Lib.hid (FX.out.again (setCell_keeps W4 b 1 (.int .i64 K1)))
            have z0 : (W4.setCell ⟨b, 1, none⟩ (.int .i64 K1)).cell? ⟨b0, 0, none⟩ = some (.int .i64 l0) := (World.cell?_setCell_other _ _ _ _ (nea n0)).trans x0
            have z1 : (W4.setCell ⟨b, 1, none⟩ (.int .i64 K1)).cell? ⟨b1, 0, none⟩ = some (.int .i64 l1) := (World.cell?_setCell_other _ _ _ _ (nea n1)).trans x1
            have z2 : (W4.setCell ⟨b, 1, none⟩ (.int .i64 K1)).cell? ⟨b2, 0, none⟩ = some (.int .i64 l2) := (World.cell?_setCell_other _ _ _ _ (nea n2)).trans x2
            have z3 : (W4.setCell ⟨b, 1, none⟩ (.int .i64 K1)).cell? ⟨b3, 0, none⟩ = some (.int .i64 l3) := (World.cell?_setCell_other _ _ _ _ (nea n3)).trans x3
            clear G HH FX f x0 c4 x1 c6 x2 c7 x3 c5 c0 c1
            generalize W4.setCell ⟨b, 1, none⟩ (.int .i64 K1) = W5 at *
            have G := G2; have HH := HH2; have FX := FX2; clear G2 HH2 FX2
            have x0 := z0; clear z0
            have x1 := z1; clear z1
            have x2 := z2; clear z2
            have x3 := z3; clear z3
            have c0 := hcell G.out 0; have c1 := hcell G.out 1; have f := HH.out.f
            have c4 := hcell G.out 4
            have c6 := hcell G.out 6
            have c7 := hcell G.out 7
            have c5 := hcell G.out 5
            go_wp2_with fail
            go_end0
            refine ⟨rfl, ?_⟩
            rw [e]
            have hf := HH.out.drop 4 (by simp)
            unfold OnPost onK
            rw [if_pos rfl, if_neg HZ.out, ← HK1.out]
            exact ⟨hf, FX.out⟩
end Go.Proofs.YtmakjfeepmiggaaGreat