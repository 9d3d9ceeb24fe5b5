import Derived.Test.YtmakjfeepmiggaaGreatZ25
import Derived.Deep.RegionHeld2
namespace Go.Proofs.YtmakjfeepmiggaaGreat
open Go.RowKit Go.Maps TagPure
set_option linter.unusedVariables false
theorem kp_fx {b : Nat} {w w' : World} (h : Keeps (· = b) w w') : Fx (fun _ => false) false b w w' :=
  ⟨h.size, fun k cs T fr h1 _ h2 => (h.block k (Array.getElem?_eq_some_iff.1 h1).1 h2).trans h1, fun _ k es cl h1 h2 => (h.block k (Array.getElem?_eq_some_iff.1 h1).1 h2).trans h1⟩
theorem rd_kp {w0 w w' : World} {R : WB} {V : WV} {xr : RS} {b : Nat} {cs : Array Value} {T : TypeId} (h : RD w0 w R V xr) (hk : Keeps (· = b) w w') (hb : w.heap[b]? = some (.cells cs T (0, 0))) (hT : rTy T = false) (hlo : w0.heap.size ≤ b) : RD w0 w' R V xr :=
  h.fr ((kp_fx hk).fr hb) (fun X hX => by
    cases hXT : (X == T)
    · rfl
    · rw [beq_iff_eq] at hXT; subst hXT; rw [hX] at hT; cases hT) (keeps_below hk h.below h.below.size fun k e => e ▸ hlo)
theorem RHm.spot {w : World} {lo b : Nat} {ln K tag : Int} {way : List (Int × Int × Int)} {qs : List (Nat × Dg)} (h : RHm w lo b ln K way tag qs) (k : Nat) (p : Int × Int × Int) (hp : way[k]? = some p) : ∃ g cap, w.cell? ⟨b, 2, none⟩ = some (.slice (some ⟨g, 0, none⟩) way.length cap) ∧ w.cell? ⟨g, k * 3, none⟩ = some (.int .i64 p.1) ∧ w.cell? ⟨g, k * 3 + 1, none⟩ = some (.int .i64 p.2.1) ∧ w.cell? ⟨g, k * 3 + 2, none⟩ = some (.int .i64 p.2.2) := by
  obtain ⟨vw, p0, p1, p2, p3, g1, g2, g3⟩ := h.ex
  obtain ⟨hk, -⟩ := List.getElem?_eq_some_iff.1 hp
  obtain ⟨g, cap, rfl, -⟩ := own_some g2 (by omega)
  obtain ⟨a, b', c, -⟩ := own_cell3 g2 k p hp
  exact ⟨g, cap, hcell g1 2, a, b', c⟩
theorem RHm.c {w : World} {lo b : Nat} {ln K tag : Int} {way : List (Int × Int × Int)} {qs : List (Nat × Dg)} (h : RHm w lo b ln K way tag qs) : w.cell? ⟨b, 0, none⟩ = some (.int .i64 ln) ∧ w.cell? ⟨b, 1, none⟩ = some (.int .i64 K) ∧ w.cell? ⟨b, 3, none⟩ = some (.int .i64 tag) := by
  obtain ⟨vw, p0, p1, p2, p3, g1, g2, g3⟩ := h.ex
  exact ⟨hcell g1 0, hcell g1 1, hcell g1 3⟩
set_option maxRecDepth 10000 in
set_option maxHeartbeats 4000000 in
theorem rhpstep3 {w0 w : World} {R : WB} {V : WV} {xr : RS} {s : CS} {b q : Nat} {x : HP} {xs : List Int} {qs : List (Nat × Dg)} (h : RD w0 w R V xr) (hr : xr.room) (hv : s.val = rlook xr.l) (hsv : ∀ a, 0 ≤ s.val a ∧ s.val a < 18446744073709551616) (hx : RHopsAt w w0.heap.size b x ((q, .mark xs) :: qs)) (hl0 : x.left ≠ 0) (hn : qs.length = 3) :
    Calls Tryz.prog 117 #[.pointer (some ⟨b, 0, none⟩), .pointer (some ⟨R.wb, 0, none⟩)] w fun e w' => e = .returned (.tuple #[]) ∧ RHPost w0 w R V (x.nextR s xr) b (x.next s).2 ((q, .mark xs) :: qs) w' := by
  have hm := hx.m
  have hle : x.l = .mark xs :: qs.map Prod.snd := hx.eq
  have hrl : x.rln = 3 := by unfold HP.rln; rw [if_neg hl0, hle, if_neg (List.cons_ne_nil _ _)]; simp only [List.length_cons, List.length_map, hn]; rfl
  rw [hrl] at hm
  have hov := hx.hd _ _ hle
  obtain ⟨hdq, hkq⟩ := hm.dos _ List.mem_cons_self
  simp only at hdq hkq
  have e2 : x.nextR s xr = (Dg.mark xs).stepR s xr := by unfold HP.nextR; rw [hle]
  have e3 : (x.next s).2 = ({ x with l := ((Dg.mark xs).step s).2 :: qs.map Prod.snd } : HP).on := by unfold HP.next; rw [hle]
  obtain ⟨k, hk⟩ : ∃ k, x.left = k + 1 := ⟨x.left - 1, by omega⟩
  have hlt := hx.lt
  have hfew := hm.few
  obtain ⟨p, hp⟩ : ∃ p, x.way[k]? = some p := ⟨x.way[k]'(by omega), List.getElem?_eq_getElem (by omega)⟩
  obtain ⟨g0, cap, y2, z0, z1, z2⟩ := hm.spot k p hp
  obtain ⟨c0, c1, -⟩ := hm.c
  rw [show (x.left : Int) - 1 = (k : Int) by omega] at c1
  obtain ⟨b0, b1, b2⟩ := p
  simp only at z0 z1 z2
  have hpt : w.cell? ⟨b, 4, none⟩ = some (.pointer (some ⟨q, 0, none⟩)) := by
    obtain ⟨vw, p0, p1, p2, p3, g1, g2, g3⟩ := hm.ex
    rw [List.length_cons, hn] at g3
    have g4 : p0 = some ⟨q, 0, none⟩ := by simp at g3; first | exact g3.1 | exact g3
    rw [hcell g1 4, ← g4]; rfl
  have i0 : (0 : Int) ≤ k := by omega
  have i1 : (k : Int) < x.way.length := by omega
  have al : ∀ (o : Obj) {q j : Nat} {u : Value}, w.cell? ⟨q, j, none⟩ = some u → (w.alloc o).cell? ⟨q, j, none⟩ = some u := fun o q j u hu => by rw [World.cell?_alloc_past _ _ _ (World.block_lt_of_cell? _ _ hu)]; exact hu
  have y2' := fun o => al o y2
  have c1' := fun o => al o c1
  have z0' := fun o => al o z0
  have z1' := fun o => al o z1
  have z2' := fun o => al o z2
  rw [e2, e3]
  have H := Lib.hid h; have HR := Lib.hid hr; have HV := Lib.hid hv; have HSV := Lib.hid hsv; have HM := Lib.hid hm; have HOV := Lib.hid hov; have HDQ := Lib.hid hdq; have HKQ := Lib.hid hkq; have HL0 := Lib.hid hl0; have HLT := Lib.hid hlt; have HC0 := Lib.hid c0; have HPT := Lib.hid hpt; have HK := Lib.hid (show (0 : Int) ≤ (x.left : Int) - 1 ∧ (x.left : Int) - 1 < 1000000 by omega); have HN := Lib.hid hn
  clear h hr hv hsv hx hl0 hn hm hle hrl hov hdq hkq e2 e3 hk hlt hfew hp hpt al
  go_enter Tryz.func117, Tryz.ntmps117
  go_upto_region 1 with (fail)
  clear c0
  go_region
  go_upto_region 2 with (fail)
  have k1 := (below_alloc w (.cells #[.int .i64 b0, .int .i64 b1, .int .i64 b2] 71)).drew
  have H2 := Lib.hid (H.out.keep k1); have HM2 := Lib.hid (HM.out.below k1); have HDQ2 := Lib.hid (HDQ.out.below k1); have K1 := Lib.hid k1
  have c0 : (w.alloc (.cells #[.int .i64 b0, .int .i64 b1, .int .i64 b2] 71)).drew.cell? ⟨b, 0, none⟩ = some (.int .i64 3) := (k1.cell (World.block_lt_of_cell? _ _ HC0.out)).trans HC0.out
  have c4 : (w.alloc (.cells #[.int .i64 b0, .int .i64 b1, .int .i64 b2] 71)).drew.cell? ⟨b, 4, none⟩ = some (.pointer (some ⟨q, 0, none⟩)) := (k1.cell (World.block_lt_of_cell? _ _ HPT.out)).trans HPT.out
  clear c1 y2 z0 z1 z2 c1' y2' z0' z1' z2' i0 i1 k1
  generalize (w.alloc (.cells #[.int .i64 b0, .int .i64 b1, .int .i64 b2] 71)).drew = w2 at *
  have hst := rdg_mark H2.out HR.out HV.out HDQ2.out HOV.out HKQ.out
  go_upto_region 23 with (go_at_call 172; refine hst.mono ?_; intro e w3 hh; obtain ⟨hh1, h3, d3, f3⟩ := hh; subst hh1; have H3 := Lib.hid h3; have HM3 := Lib.hid (HM2.out.step d3 (Dg.ok_step HKQ.out HSV.out) (dg_kind s _) f3); have F3 := Lib.hid f3; clear h3 d3 f3 hst c0 c4)
  have hon := rhpon (qs := (q, ((Dg.mark xs).step s).2) :: qs) (by rw [List.length_cons, HN.out]; exact HM3.out) (List.cons_ne_nil _ _) HK.out
  go_wp2_with (go_at_call 174; refine hon.mono ?_; intro e w4 hh; obtain ⟨hh1, h4⟩ := hh; subst hh1; have P4 := Lib.hid h4; clear h4 hon)
  go_end0
  refine ⟨rfl, _, rd_kp H3.out P4.out.2 HM3.out.blk.choose_spec rfl HM.out.low, rhp_on (x := { x with l := ((Dg.mark xs).step s).2 :: qs.map Prod.snd }) HL0.out HLT.out rfl P4.out, ?_, ?_⟩
  · have t1 : FR (b :: ((q, Dg.mark xs) :: qs).map Prod.fst) w w2 := fR_below K1.out
    obtain ⟨cs3, b3⟩ := HDQ2.out.blk
    obtain ⟨cs4, b4⟩ := HM3.out.blk
    have t2 := fR_fx (S := b :: ((q, Dg.mark xs) :: qs).map Prod.fst) F3.out (fun T h => h) (by simp) b3
    have t3 := fR_fx (S := b :: ((q, Dg.mark xs) :: qs).map Prod.fst) (kp_fx P4.out.2) (fun T h => rfl) (by simp) b4
    exact (t1.trans t2).trans t3
  · intro y hy
    left
    have hy2 := (List.dropWhile_sublist _).subset hy
    rcases List.mem_cons.1 hy2 with e | e
    · rw [e]; simp
    · exact List.mem_map.2 ⟨y, List.mem_cons_of_mem _ e, rfl⟩
set_option maxRecDepth 10000 in
set_option maxHeartbeats 4000000 in
theorem rhpstep4 {w0 w : World} {R : WB} {V : WV} {xr : RS} {s : CS} {b q : Nat} {x : HP} {σ : SL} {qs : List (Nat × Dg)} (h : RD w0 w R V xr) (hr : xr.room) (hv : s.val = rlook xr.l) (hsv : ∀ a, 0 ≤ s.val a ∧ s.val a < 18446744073709551616) (hx : RHopsAt w w0.heap.size b x ((q, .out σ) :: qs)) (hl0 : x.left ≠ 0) (hn : qs.length = 2) :
    Calls Tryz.prog 117 #[.pointer (some ⟨b, 0, none⟩), .pointer (some ⟨R.wb, 0, none⟩)] w fun e w' => e = .returned (.tuple #[]) ∧ RHPost w0 w R V (x.nextR s xr) b (x.next s).2 ((q, .out σ) :: qs) w' := by
  have hm := hx.m
  have hle : x.l = .out σ :: qs.map Prod.snd := hx.eq
  have hrl : x.rln = 4 := by unfold HP.rln; rw [if_neg hl0, hle, if_neg (List.cons_ne_nil _ _)]; simp only [List.length_cons, List.length_map, hn]; rfl
  rw [hrl] at hm
  have hov := hx.hd _ _ hle
  obtain ⟨hdq, hkq⟩ := hm.dos _ List.mem_cons_self
  simp only at hdq hkq
  have e2 : x.nextR s xr = (Dg.out σ).stepR s xr := by unfold HP.nextR; rw [hle]
  have e3 : (x.next s).2 = ({ x with l := ((Dg.out σ).step s).2 :: qs.map Prod.snd } : HP).on := by unfold HP.next; rw [hle]
  obtain ⟨k, hk⟩ : ∃ k, x.left = k + 1 := ⟨x.left - 1, by omega⟩
  have hlt := hx.lt
  have hfew := hm.few
  obtain ⟨p, hp⟩ : ∃ p, x.way[k]? = some p := ⟨x.way[k]'(by omega), List.getElem?_eq_getElem (by omega)⟩
  obtain ⟨g0, cap, y2, z0, z1, z2⟩ := hm.spot k p hp
  obtain ⟨c0, c1, -⟩ := hm.c
  rw [show (x.left : Int) - 1 = (k : Int) by omega] at c1
  obtain ⟨b0, b1, b2⟩ := p
  simp only at z0 z1 z2
  have hpt : w.cell? ⟨b, 6, none⟩ = some (.pointer (some ⟨q, 0, none⟩)) := by
    obtain ⟨vw, p0, p1, p2, p3, g1, g2, g3⟩ := hm.ex
    rw [List.length_cons, hn] at g3
    have g4 : p1 = some ⟨q, 0, none⟩ := by simp at g3; first | exact g3.1 | exact g3
    rw [hcell g1 6, ← g4]; rfl
  have i0 : (0 : Int) ≤ k := by omega
  have i1 : (k : Int) < x.way.length := by omega
  have al : ∀ (o : Obj) {q j : Nat} {u : Value}, w.cell? ⟨q, j, none⟩ = some u → (w.alloc o).cell? ⟨q, j, none⟩ = some u := fun o q j u hu => by rw [World.cell?_alloc_past _ _ _ (World.block_lt_of_cell? _ _ hu)]; exact hu
  have y2' := fun o => al o y2
  have c1' := fun o => al o c1
  have z0' := fun o => al o z0
  have z1' := fun o => al o z1
  have z2' := fun o => al o z2
  rw [e2, e3]
  have H := Lib.hid h; have HR := Lib.hid hr; have HV := Lib.hid hv; have HSV := Lib.hid hsv; have HM := Lib.hid hm; have HOV := Lib.hid hov; have HDQ := Lib.hid hdq; have HKQ := Lib.hid hkq; have HL0 := Lib.hid hl0; have HLT := Lib.hid hlt; have HC0 := Lib.hid c0; have HPT := Lib.hid hpt; have HK := Lib.hid (show (0 : Int) ≤ (x.left : Int) - 1 ∧ (x.left : Int) - 1 < 1000000 by omega); have HN := Lib.hid hn
  clear h hr hv hsv hx hl0 hn hm hle hrl hov hdq hkq e2 e3 hk hlt hfew hp hpt al
  go_enter Tryz.func117, Tryz.ntmps117
  go_upto_region 1 with (fail)
  clear c0
  go_region
  go_upto_region 2 with (fail)
  have k1 := (below_alloc w (.cells #[.int .i64 b0, .int .i64 b1, .int .i64 b2] 71)).drew
  have H2 := Lib.hid (H.out.keep k1); have HM2 := Lib.hid (HM.out.below k1); have HDQ2 := Lib.hid (HDQ.out.below k1); have K1 := Lib.hid k1
  have c0 : (w.alloc (.cells #[.int .i64 b0, .int .i64 b1, .int .i64 b2] 71)).drew.cell? ⟨b, 0, none⟩ = some (.int .i64 4) := (k1.cell (World.block_lt_of_cell? _ _ HC0.out)).trans HC0.out
  have c6 : (w.alloc (.cells #[.int .i64 b0, .int .i64 b1, .int .i64 b2] 71)).drew.cell? ⟨b, 6, none⟩ = some (.pointer (some ⟨q, 0, none⟩)) := (k1.cell (World.block_lt_of_cell? _ _ HPT.out)).trans HPT.out
  clear c1 y2 z0 z1 z2 c1' y2' z0' z1' z2' i0 i1 k1
  generalize (w.alloc (.cells #[.int .i64 b0, .int .i64 b1, .int .i64 b2] 71)).drew = w2 at *
  have hst := rdg_out H2.out HR.out HV.out HDQ2.out HOV.out HKQ.out
  go_upto_region 23 with (go_at_call 173; refine hst.mono ?_; intro e w3 hh; obtain ⟨hh1, h3, d3, f3⟩ := hh; subst hh1; have H3 := Lib.hid h3; have HM3 := Lib.hid (HM2.out.step d3 (Dg.ok_step HKQ.out HSV.out) (dg_kind s _) f3); have F3 := Lib.hid f3; clear h3 d3 f3 hst c0 c6)
  have hon := rhpon (qs := (q, ((Dg.out σ).step s).2) :: qs) (by rw [List.length_cons, HN.out]; exact HM3.out) (List.cons_ne_nil _ _) HK.out
  go_wp2_with (go_at_call 174; refine hon.mono ?_; intro e w4 hh; obtain ⟨hh1, h4⟩ := hh; subst hh1; have P4 := Lib.hid h4; clear h4 hon)
  go_end0
  refine ⟨rfl, _, rd_kp H3.out P4.out.2 HM3.out.blk.choose_spec rfl HM.out.low, rhp_on (x := { x with l := ((Dg.out σ).step s).2 :: qs.map Prod.snd }) HL0.out HLT.out rfl P4.out, ?_, ?_⟩
  · have t1 : FR (b :: ((q, Dg.out σ) :: qs).map Prod.fst) w w2 := fR_below K1.out
    obtain ⟨cs3, b3⟩ := HDQ2.out.blk
    obtain ⟨cs4, b4⟩ := HM3.out.blk
    have t2 := fR_fx (S := b :: ((q, Dg.out σ) :: qs).map Prod.fst) F3.out (fun T h => h) (by simp) b3
    have t3 := fR_fx (S := b :: ((q, Dg.out σ) :: qs).map Prod.fst) (kp_fx P4.out.2) (fun T h => rfl) (by simp) b4
    exact (t1.trans t2).trans t3
  · intro y hy
    left
    have hy2 := (List.dropWhile_sublist _).subset hy
    rcases List.mem_cons.1 hy2 with e | e
    · rw [e]; simp
    · exact List.mem_map.2 ⟨y, List.mem_cons_of_mem _ e, rfl⟩
set_option maxRecDepth 10000 in
set_option maxHeartbeats 4000000 in
theorem rhpstep5 {w0 w : World} {R : WB} {V : WV} {xr : RS} {s : CS} {b q : Nat} {x : HP} {σ : SL} {g r : Int} {qs : List (Nat × Dg)} (h : RD w0 w R V xr) (hr : xr.room) (hv : s.val = rlook xr.l) (hsv : ∀ a, 0 ≤ s.val a ∧ s.val a < 18446744073709551616) (hx : RHopsAt w w0.heap.size b x ((q, .put σ g r) :: qs)) (hl0 : x.left ≠ 0) (hn : qs.length = 1) :
    Calls Tryz.prog 117 #[.pointer (some ⟨b, 0, none⟩), .pointer (some ⟨R.wb, 0, none⟩)] w fun e w' => e = .returned (.tuple #[]) ∧ RHPost w0 w R V (x.nextR s xr) b (x.next s).2 ((q, .put σ g r) :: qs) w' := by
  have hm := hx.m
  have hle : x.l = .put σ g r :: qs.map Prod.snd := hx.eq
  have hrl : x.rln = 5 := by unfold HP.rln; rw [if_neg hl0, hle, if_neg (List.cons_ne_nil _ _)]; simp only [List.length_cons, List.length_map, hn]; rfl
  rw [hrl] at hm
  have hov := hx.hd _ _ hle
  obtain ⟨hdq, hkq⟩ := hm.dos _ List.mem_cons_self
  simp only at hdq hkq
  have e2 : x.nextR s xr = (Dg.put σ g r).stepR s xr := by unfold HP.nextR; rw [hle]
  have e3 : (x.next s).2 = ({ x with l := ((Dg.put σ g r).step s).2 :: qs.map Prod.snd } : HP).on := by unfold HP.next; rw [hle]
  obtain ⟨k, hk⟩ : ∃ k, x.left = k + 1 := ⟨x.left - 1, by omega⟩
  have hlt := hx.lt
  have hfew := hm.few
  obtain ⟨p, hp⟩ : ∃ p, x.way[k]? = some p := ⟨x.way[k]'(by omega), List.getElem?_eq_getElem (by omega)⟩
  obtain ⟨g0, cap, y2, z0, z1, z2⟩ := hm.spot k p hp
  obtain ⟨c0, c1, -⟩ := hm.c
  rw [show (x.left : Int) - 1 = (k : Int) by omega] at c1
  obtain ⟨b0, b1, b2⟩ := p
  simp only at z0 z1 z2
  have hpt : w.cell? ⟨b, 7, none⟩ = some (.pointer (some ⟨q, 0, none⟩)) := by
    obtain ⟨vw, p0, p1, p2, p3, g1, g2, g3⟩ := hm.ex
    rw [List.length_cons, hn] at g3
    have g4 : p2 = some ⟨q, 0, none⟩ := by simp at g3; first | exact g3.1 | exact g3
    rw [hcell g1 7, ← g4]; rfl
  have i0 : (0 : Int) ≤ k := by omega
  have i1 : (k : Int) < x.way.length := by omega
  have al : ∀ (o : Obj) {q j : Nat} {u : Value}, w.cell? ⟨q, j, none⟩ = some u → (w.alloc o).cell? ⟨q, j, none⟩ = some u := fun o q j u hu => by rw [World.cell?_alloc_past _ _ _ (World.block_lt_of_cell? _ _ hu)]; exact hu
  have y2' := fun o => al o y2
  have c1' := fun o => al o c1
  have z0' := fun o => al o z0
  have z1' := fun o => al o z1
  have z2' := fun o => al o z2
  rw [e2, e3]
  have H := Lib.hid h; have HR := Lib.hid hr; have HV := Lib.hid hv; have HSV := Lib.hid hsv; have HM := Lib.hid hm; have HOV := Lib.hid hov; have HDQ := Lib.hid hdq; have HKQ := Lib.hid hkq; have HL0 := Lib.hid hl0; have HLT := Lib.hid hlt; have HC0 := Lib.hid c0; have HPT := Lib.hid hpt; have HK := Lib.hid (show (0 : Int) ≤ (x.left : Int) - 1 ∧ (x.left : Int) - 1 < 1000000 by omega); have HN := Lib.hid hn
  clear h hr hv hsv hx hl0 hn hm hle hrl hov hdq hkq e2 e3 hk hlt hfew hp hpt al
  go_enter Tryz.func117, Tryz.ntmps117
  go_upto_region 1 with (fail)
  clear c0
  go_region
  go_upto_region 2 with (fail)
  have k1 := (below_alloc w (.cells #[.int .i64 b0, .int .i64 b1, .int .i64 b2] 71)).drew
  have H2 := Lib.hid (H.out.keep k1); have HM2 := Lib.hid (HM.out.below k1); have HDQ2 := Lib.hid (HDQ.out.below k1); have K1 := Lib.hid k1
  have c0 : (w.alloc (.cells #[.int .i64 b0, .int .i64 b1, .int .i64 b2] 71)).drew.cell? ⟨b, 0, none⟩ = some (.int .i64 5) := (k1.cell (World.block_lt_of_cell? _ _ HC0.out)).trans HC0.out
  have c7 : (w.alloc (.cells #[.int .i64 b0, .int .i64 b1, .int .i64 b2] 71)).drew.cell? ⟨b, 7, none⟩ = some (.pointer (some ⟨q, 0, none⟩)) := (k1.cell (World.block_lt_of_cell? _ _ HPT.out)).trans HPT.out
  clear c1 y2 z0 z1 z2 c1' y2' z0' z1' z2' i0 i1 k1
  generalize (w.alloc (.cells #[.int .i64 b0, .int .i64 b1, .int .i64 b2] 71)).drew = w2 at *
  have hst := rdg_put H2.out HR.out HV.out HDQ2.out HOV.out HKQ.out
  go_upto_region 23 with (go_at_call 173; refine hst.mono ?_; intro e w3 hh; obtain ⟨hh1, h3, d3, f3⟩ := hh; subst hh1; have H3 := Lib.hid h3; have HM3 := Lib.hid (HM2.out.step d3 (Dg.ok_step HKQ.out HSV.out) (dg_kind s _) f3); have F3 := Lib.hid f3; clear h3 d3 f3 hst c0 c7)
  have hon := rhpon (qs := (q, ((Dg.put σ g r).step s).2) :: qs) (by rw [List.length_cons, HN.out]; exact HM3.out) (List.cons_ne_nil _ _) HK.out
  go_wp2_with (go_at_call 174; refine hon.mono ?_; intro e w4 hh; obtain ⟨hh1, h4⟩ := hh; subst hh1; have P4 := Lib.hid h4; clear h4 hon)
  go_end0
  refine ⟨rfl, _, rd_kp H3.out P4.out.2 HM3.out.blk.choose_spec rfl HM.out.low, rhp_on (x := { x with l := ((Dg.put σ g r).step s).2 :: qs.map Prod.snd }) HL0.out HLT.out rfl P4.out, ?_, ?_⟩
  · have t1 : FR (b :: ((q, Dg.put σ g r) :: qs).map Prod.fst) w w2 := fR_below K1.out
    obtain ⟨cs3, b3⟩ := HDQ2.out.blk
    obtain ⟨cs4, b4⟩ := HM3.out.blk
    have t2 := fR_fx (S := b :: ((q, Dg.put σ g r) :: qs).map Prod.fst) F3.out (fun T h => h) (by simp) b3
    have t3 := fR_fx (S := b :: ((q, Dg.put σ g r) :: qs).map Prod.fst) (kp_fx P4.out.2) (fun T h => rfl) (by simp) b4
    exact (t1.trans t2).trans t3
  · intro y hy
    left
    have hy2 := (List.dropWhile_sublist _).subset hy
    rcases List.mem_cons.1 hy2 with e | e
    · rw [e]; simp
    · exact List.mem_map.2 ⟨y, List.mem_cons_of_mem _ e, rfl⟩
set_option maxRecDepth 10000 in
set_option maxHeartbeats 4000000 in
theorem rhpstep6 {w0 w : World} {R : WB} {V : WV} {xr : RS} {s : CS} {b q : Nat} {x : HP} {xs : List Int} {qs : List (Nat × Dg)} (h : RD w0 w R V xr) (hr : xr.room) (hv : s.val = rlook xr.l) (hsv : ∀ a, 0 ≤ s.val a ∧ s.val a < 18446744073709551616) (hx : RHopsAt w w0.heap.size b x ((q, .mark xs) :: qs)) (hl0 : x.left ≠ 0) (hn : qs.length = 0) :
    Calls Tryz.prog 117 #[.pointer (some ⟨b, 0, none⟩), .pointer (some ⟨R.wb, 0, none⟩)] w fun e w' => e = .returned (.tuple #[]) ∧ RHPost w0 w R V (x.nextR s xr) b (x.next s).2 ((q, .mark xs) :: qs) w' := by
  have hm := hx.m
  have hle : x.l = .mark xs :: qs.map Prod.snd := hx.eq
  have hrl : x.rln = 6 := by unfold HP.rln; rw [if_neg hl0, hle, if_neg (List.cons_ne_nil _ _)]; simp only [List.length_cons, List.length_map, hn]; rfl
  rw [hrl] at hm
  have hov := hx.hd _ _ hle
  obtain ⟨hdq, hkq⟩ := hm.dos _ List.mem_cons_self
  simp only at hdq hkq
  have e2 : x.nextR s xr = (Dg.mark xs).stepR s xr := by unfold HP.nextR; rw [hle]
  have e3 : (x.next s).2 = ({ x with l := ((Dg.mark xs).step s).2 :: qs.map Prod.snd } : HP).on := by unfold HP.next; rw [hle]
  obtain ⟨k, hk⟩ : ∃ k, x.left = k + 1 := ⟨x.left - 1, by omega⟩
  have hlt := hx.lt
  have hfew := hm.few
  obtain ⟨p, hp⟩ : ∃ p, x.way[k]? = some p := ⟨x.way[k]'(by omega), List.getElem?_eq_getElem (by omega)⟩
  obtain ⟨g0, cap, y2, z0, z1, z2⟩ := hm.spot k p hp
  obtain ⟨c0, c1, -⟩ := hm.c
  rw [show (x.left : Int) - 1 = (k : Int) by omega] at c1
  obtain ⟨b0, b1, b2⟩ := p
  simp only at z0 z1 z2
  have hpt : w.cell? ⟨b, 5, none⟩ = some (.pointer (some ⟨q, 0, none⟩)) := by
    obtain ⟨vw, p0, p1, p2, p3, g1, g2, g3⟩ := hm.ex
    rw [List.length_cons, hn] at g3
    have g4 : p3 = some ⟨q, 0, none⟩ := by simp at g3; first | exact g3.1 | exact g3
    rw [hcell g1 5, ← g4]; rfl
  have i0 : (0 : Int) ≤ k := by omega
  have i1 : (k : Int) < x.way.length := by omega
  have al : ∀ (o : Obj) {q j : Nat} {u : Value}, w.cell? ⟨q, j, none⟩ = some u → (w.alloc o).cell? ⟨q, j, none⟩ = some u := fun o q j u hu => by rw [World.cell?_alloc_past _ _ _ (World.block_lt_of_cell? _ _ hu)]; exact hu
  have y2' := fun o => al o y2
  have c1' := fun o => al o c1
  have z0' := fun o => al o z0
  have z1' := fun o => al o z1
  have z2' := fun o => al o z2
  rw [e2, e3]
  have H := Lib.hid h; have HR := Lib.hid hr; have HV := Lib.hid hv; have HSV := Lib.hid hsv; have HM := Lib.hid hm; have HOV := Lib.hid hov; have HDQ := Lib.hid hdq; have HKQ := Lib.hid hkq; have HL0 := Lib.hid hl0; have HLT := Lib.hid hlt; have HC0 := Lib.hid c0; have HPT := Lib.hid hpt; have HK := Lib.hid (show (0 : Int) ≤ (x.left : Int) - 1 ∧ (x.left : Int) - 1 < 1000000 by omega); have HN := Lib.hid hn
  clear h hr hv hsv hx hl0 hn hm hle hrl hov hdq hkq e2 e3 hk hlt hfew hp hpt al
  go_enter Tryz.func117, Tryz.ntmps117
  go_upto_region 1 with (fail)
  clear c0
  go_region
  go_upto_region 2 with (fail)
  have k1 := (below_alloc w (.cells #[.int .i64 b0, .int .i64 b1, .int .i64 b2] 71)).drew
  have H2 := Lib.hid (H.out.keep k1); have HM2 := Lib.hid (HM.out.below k1); have HDQ2 := Lib.hid (HDQ.out.below k1); have K1 := Lib.hid k1
  have c0 : (w.alloc (.cells #[.int .i64 b0, .int .i64 b1, .int .i64 b2] 71)).drew.cell? ⟨b, 0, none⟩ = some (.int .i64 6) := (k1.cell (World.block_lt_of_cell? _ _ HC0.out)).trans HC0.out
  have c5 : (w.alloc (.cells #[.int .i64 b0, .int .i64 b1, .int .i64 b2] 71)).drew.cell? ⟨b, 5, none⟩ = some (.pointer (some ⟨q, 0, none⟩)) := (k1.cell (World.block_lt_of_cell? _ _ HPT.out)).trans HPT.out
  clear c1 y2 z0 z1 z2 c1' y2' z0' z1' z2' i0 i1 k1
  generalize (w.alloc (.cells #[.int .i64 b0, .int .i64 b1, .int .i64 b2] 71)).drew = w2 at *
  have hst := rdg_mark H2.out HR.out HV.out HDQ2.out HOV.out HKQ.out
  go_upto_region 23 with (go_at_call 172; refine hst.mono ?_; intro e w3 hh; obtain ⟨hh1, h3, d3, f3⟩ := hh; subst hh1; have H3 := Lib.hid h3; have HM3 := Lib.hid (HM2.out.step d3 (Dg.ok_step HKQ.out HSV.out) (dg_kind s _) f3); have F3 := Lib.hid f3; clear h3 d3 f3 hst c0 c5)
  have hon := rhpon (qs := (q, ((Dg.mark xs).step s).2) :: qs) (by rw [List.length_cons, HN.out]; exact HM3.out) (List.cons_ne_nil _ _) HK.out
  go_wp2_with (go_at_call 174; refine hon.mono ?_; intro e w4 hh; obtain ⟨hh1, h4⟩ := hh; subst hh1; have P4 := Lib.hid h4; clear h4 hon)
  go_end0
  refine ⟨rfl, _, rd_kp H3.out P4.out.2 HM3.out.blk.choose_spec rfl HM.out.low, rhp_on (x := { x with l := ((Dg.mark xs).step s).2 :: qs.map Prod.snd }) HL0.out HLT.out rfl P4.out, ?_, ?_⟩
  · have t1 : FR (b :: ((q, Dg.mark xs) :: qs).map Prod.fst) w w2 := fR_below K1.out
    obtain ⟨cs3, b3⟩ := HDQ2.out.blk
    obtain ⟨cs4, b4⟩ := HM3.out.blk
    have t2 := fR_fx (S := b :: ((q, Dg.mark xs) :: qs).map Prod.fst) F3.out (fun T h => h) (by simp) b3
    have t3 := fR_fx (S := b :: ((q, Dg.mark xs) :: qs).map Prod.fst) (kp_fx P4.out.2) (fun T h => rfl) (by simp) b4
    exact (t1.trans t2).trans t3
  · intro y hy
    left
    have hy2 := (List.dropWhile_sublist _).subset hy
    rcases List.mem_cons.1 hy2 with e | e
    · rw [e]; simp
    · exact List.mem_map.2 ⟨y, List.mem_cons_of_mem _ e, rfl⟩
end Go.Proofs.YtmakjfeepmiggaaGreat
namespace Go.Proofs.YtmakjfeepmiggaaGreat
open Go.RowKit Go.Maps TagPure
set_option linter.unusedVariables false
abbrev TS17 (nb : Nat) (b0 b1 b2 : Int) (W : World) : Prop := W.cell? ⟨nb, 0, none⟩ = some (.int .i64 b0) ∧ W.cell? ⟨nb, 1, none⟩ = some (.int .i64 b1) ∧ W.cell? ⟨nb, 2, none⟩ = some (.int .i64 b2)
theorem ts17_of {nb : Nat} {b0 b1 b2 : Int} {W : World} (h : W.heap[nb]? = some (.cells #[.int .i64 b0, .int .i64 b1, .int .i64 b2] 71 (0, 0))) : TS17 nb b0 b1 b2 W := ⟨hcell h 0, hcell h 1, hcell h 2⟩
theorem ts17_set {nb : Nat} {b0 b1 b2 : Int} {W : World} {b : Nat} {cs : Array Value} {T : TypeId} (h : W.heap[nb]? = some (.cells #[.int .i64 b0, .int .i64 b1, .int .i64 b2] 71 (0, 0))) (hb : W.heap[b]? = some (.cells cs T (0, 0))) (hT : T ≠ 71) (o : Nat) (v : Value) : (W.setCell ⟨b, o, none⟩ v).heap[nb]? = some (.cells #[.int .i64 b0, .int .i64 b1, .int .i64 b2] 71 (0, 0)) :=
  (Below.heap_setCell W ⟨b, o, none⟩ v nb (fun c => by
    rw [c, hb] at h
    simp only [Option.some.injEq, Obj.cells.injEq] at h
    exact hT h.2.1)).trans h
set_option maxRecDepth 10000 in
set_option maxHeartbeats 4000000 in
theorem rhpstep1 {w0 w : World} {R : WB} {V : WV} {xr : RS} {s : CS} {b k : Nat} {x : HP} {b0 b1 b2 : Int} (h : RD w0 w R V xr) (hr : xr.room) (hv : s.val = rlook xr.l) (hsv : ∀ a, 0 ≤ s.val a ∧ s.val a < 18446744073709551616) (hx : RHopsAt w w0.heap.size b x []) (hk : x.left = k + 1) (hp : x.way[k]? = some (b0, b1, b2)) (hld : x.load = false) :
    Calls Tryz.prog 117 #[.pointer (some ⟨b, 0, none⟩), .pointer (some ⟨R.wb, 0, none⟩)] w fun e w' => e = .returned (.tuple #[]) ∧ RHPost w0 w R V (x.nextR s xr) b (x.next s).2 [] w' := by
  have hm := hx.m
  have hl0 : x.left ≠ 0 := by omega
  have hle : x.l = [] := hx.eq
  have hrl : x.rln = 1 := by unfold HP.rln; rw [if_neg hl0, if_pos hle, hld]; rfl
  rw [hrl] at hm
  have hlt := hx.lt
  have hfew := hm.few
  have hq : x.way[x.left]? = some (x.way[x.left]'(by omega)) := List.getElem?_eq_getElem (by omega)
  obtain ⟨v, hvv⟩ : ∃ v, v = s.val (tagsA b0 b1) := ⟨_, rfl⟩
  have hvb := hsv (tagsA b0 b1)
  rw [← hvv] at hvb
  have e2 : x.nextR s xr = xr.acc 1 (tagsA b0 b1) v := by unfold HP.nextR; rw [hle, show x.left - 1 = k by omega, hp]; simp only; rw [if_pos hld, ← hvv]
  have e3 : (x.next s).2 = { x with tag := tagOf v b2, load := true } := by unfold HP.next; rw [hle, show x.left - 1 = k by omega, hp, hq]; simp only; rw [if_pos hld, ← hvv]
  obtain ⟨g0, cap, y2, z0, z1, z2⟩ := hm.spot k _ hp
  obtain ⟨c0, c1, -⟩ := hm.c
  rw [show (x.left : Int) - 1 = (k : Int) by omega] at c1
  simp only at z0 z1 z2
  have i0 : (0 : Int) ≤ k := by omega
  have i1 : (k : Int) < x.way.length := by omega
  have al : ∀ (o : Obj) {q j : Nat} {u : Value}, w.cell? ⟨q, j, none⟩ = some u → (w.alloc o).cell? ⟨q, j, none⟩ = some u := fun o q j u hu => by rw [World.cell?_alloc_past _ _ _ (World.block_lt_of_cell? _ _ hu)]; exact hu
  have y2' := fun o => al o y2
  have c1' := fun o => al o c1
  have z0' := fun o => al o z0
  have z1' := fun o => al o z1
  have z2' := fun o => al o z2
  have hTG := fun W => rtags_any b0 b1 W
  obtain ⟨A, hA⟩ : ∃ A, A = tagsA b0 b1 := ⟨_, rfl⟩
  have hAw : (Lit.int .u64 A).wf = true := by rw [hA]; exact tagsA_wf _ _
  rw [← hA] at hTG hvv e2
  have hld2 := fun W (hW : Below w.heap.size w W) => rwload (h.keep hW) hr A hAw
  rw [← hv, ← hvv] at hld2
  have hTA := fun W => rtag_any v b2 W hvb.1 hvb.2
  rw [e2, e3]
  have H := Lib.hid h; have HM := Lib.hid hm; have HC0 := Lib.hid c0; have HLD := Lib.hid hld2; have HX := Lib.hid hx; have HL0 := Lib.hid hl0; have HLE := Lib.hid hle
  clear h hr hv hsv hx hl0 hm hle hrl hlt hfew hp hq al e2 e3 hk hvv hvb hA hAw hld2 hld
  go_enter Tryz.func117, Tryz.ntmps117
  go_upto_region 1 with (fail)
  clear c0
  go_region
  go_upto_region 2 with (fail)
  have k1 := (below_alloc w (.cells #[.int .i64 b0, .int .i64 b1, .int .i64 b2] 71)).drew
  have n1 : (w.alloc (.cells #[.int .i64 b0, .int .i64 b1, .int .i64 b2] 71)).drew.heap[w.heap.size]? = some (.cells #[.int .i64 b0, .int .i64 b1, .int .i64 b2] 71 (0, 0)) := heap_alloc_new w _
  have HM2 := Lib.hid (HM.out.below k1); have K1 := Lib.hid k1; have N2 := Lib.hid n1
  have c0 : (w.alloc (.cells #[.int .i64 b0, .int .i64 b1, .int .i64 b2] 71)).drew.cell? ⟨b, 0, none⟩ = some (.int .i64 1) := (k1.cell (World.block_lt_of_cell? _ _ HC0.out)).trans HC0.out
  clear c1 y2 z0 z1 z2 c1' y2' z0' z1' z2' i0 i1 k1 n1
  generalize (w.alloc (.cells #[.int .i64 b0, .int .i64 b1, .int .i64 b2] 71)).drew = w2 at *
  obtain ⟨nb, hnb⟩ : ∃ nb, nb = w.heap.size := ⟨_, rfl⟩
  rw [← hnb] at N2
  try simp only [← hnb]
  clear hnb
  go_upto_region 4 with (fail)
  clear c0
  have kd : Below w2.heap.size w2 w2.drew := (Below.refl _ _).drew
  have HM3 := Lib.hid (HM2.out.below kd); have N3 : Hid (w2.drew.heap[nb]? = _) := N2.out; have K3 := Lib.hid (K1.out.trans (kd.mono K1.out.size))
  have s3 : TS17 nb b0 b1 b2 w2.drew := ts17_of N3.out
  clear kd
  go_region_held2 (fun W => TS17 nb b0 b1 b2 W) (assumption) (first
    | (go_at_call 56; refine (hTG _).mono ?_; intro e w4 hh; obtain ⟨hh1, b4⟩ := hh; subst hh1; have HM4 := Lib.hid (HM3.out.below b4); have N4 := Lib.hid ((b4.block _ (Array.getElem?_eq_some_iff.1 N3.out).1).trans N3.out); have s4 : TS17 nb b0 b1 b2 w4 := ts17_of N4.out; have K4 := Lib.hid (K3.out.trans (b4.mono K3.out.size)); have hl4 := HLD.out w4 K4.out; clear b4 hTG s3)
    | (go_at_call 55; refine hl4.mono ?_; intro e w5 hh; obtain ⟨hh1, h5, f5⟩ := hh; subst hh1; have H5 := Lib.hid h5; have HM5 := Lib.hid (HM4.out.fr f5 rfl rfl rfl rfl rfl); have N5 := Lib.hid (f5.cells _ _ _ _ N4.out rfl); have F5 := Lib.hid f5; have s5 : TS17 nb b0 b1 b2 w5 := ts17_of N5.out; have c3 := HM5.out.c.2.2; have f3 := HM5.out.f 3; have s6 : TS17 nb b0 b1 b2 (w5.setCell ⟨b, 3, none⟩ (.int .i64 (tagOf v b2))) := ts17_of (ts17_set N5.out HM5.out.blk.choose_spec (by decide) _ _); clear h5 f5 hl4 s4)
    | (go_at_call 60; refine (hTA _).mono ?_; intro e w6 hh; obtain ⟨hh1, hh2⟩ := hh; subst hh1; obtain rfl := hh2; clear hTA))
  have HM6 := Lib.hid (HM5.out.set3 (tagOf v b2))
  have H6 := Lib.hid (rd_kp H5.out (setCell_keeps w5 b 3 (.int .i64 (tagOf v b2))) HM5.out.blk.choose_spec rfl HM.out.low)
  have F6 := Lib.hid (kp_fx (setCell_keeps w5 b 3 (.int .i64 (tagOf v b2))))
  clear c3 f3 s5 s6
  generalize w5.setCell ⟨b, 3, none⟩ (.int .i64 (tagOf v b2)) = w6 at *
  have c0 := HM6.out.c.1
  have f0 := HM6.out.f 0
  go_wp2_with (fail)
  have HM7 := HM6.out.set0 2
  obtain ⟨cs5, b5⟩ := HM5.out.blk
  obtain ⟨cs6, b6⟩ := HM6.out.blk
  refine bodyPost_ret (v := .tuple #[]) (by simp [results, Tryz.results117, go_sem]) rfl ⟨rfl, ?_⟩
  refine ⟨[], rd_kp H6.out (setCell_keeps w6 b 0 (.int .i64 2)) b6 rfl HM.out.low, ⟨?_, HLE.out, HX.out.lt, fun c => absurd c HL0.out, fun d r e => ?_⟩, ?_, fun q hq => by cases hq⟩
  · have e : HP.rln { x with tag := tagOf v b2, load := true } = 2 := by
      unfold HP.rln
      rw [if_neg HL0.out, if_pos HLE.out]; rfl
    rw [e]; exact HM7
  · rw [HLE.out] at e; cases e
  · have t1 : FR (b :: ([] : List (Nat × Dg)).map Prod.fst) w _ := fR_below K4.out
    have t2 := fR_fr (S := b :: ([] : List (Nat × Dg)).map Prod.fst) F5.out
    have t3 := fR_fx (S := b :: ([] : List (Nat × Dg)).map Prod.fst) F6.out (fun T h => rfl) (by simp) b5
    have t4 := fR_fx (S := b :: ([] : List (Nat × Dg)).map Prod.fst) (kp_fx (setCell_keeps w6 b 0 (.int .i64 2))) (fun T h => rfl) (by simp) b6
    exact ((t1.trans t2).trans t3).trans t4
end Go.Proofs.YtmakjfeepmiggaaGreat