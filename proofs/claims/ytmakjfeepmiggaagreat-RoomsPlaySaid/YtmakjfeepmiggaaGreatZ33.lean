import Derived.Test.YtmakjfeepmiggaaGreatZ30
import Derived.Test.YtmakjfeepmiggaaGreatZ31
import Derived.Test.YtmakjfeepmiggaaGreatZ1
import Derived.Test.YtmakjfeepmiggaaGreatZ5
import Derived.Test.YtmakjfeepmiggaaGreatZ32
import Derived.Deep.RegionHeld2
namespace Go.Proofs.YtmakjfeepmiggaaGreat
open Go.RowKit Go.Maps TagPure
set_option linter.unusedVariables false
theorem row3_all {w : World} {lo : Nat} {v : Value} {l : List Nd} (h : w.ownsRow lo 141 3 v l.length (flatN l)) (k : Nat) (hk : k < l.length) : ∃ g cap, v = .slice (some ⟨g, 0, none⟩) l.length cap ∧ w.cell? ⟨g, k * 3, none⟩ = some (.int .i64 (nd l k).1) ∧ w.cell? ⟨g, k * 3 + 1, none⟩ = some (.int .i64 (nd l k).2.1) ∧ w.cell? ⟨g, k * 3 + 2, none⟩ = some (.int .i64 (if (nd l k).2.1 = -1 then 0 else (nd l k).2.2)) := by
  obtain ⟨_, ⟨rfl, h0⟩ | ⟨g, cap, cur, rfl, _, hg, hn, hm, hs, ht⟩⟩ := h
  · omega
  · have e2 : (nd l k) = l[k] := by unfold nd; rw [List.getD_eq_getElem?_getD, List.getElem?_eq_getElem hk]; rfl
    have key : ∀ j, j < 3 → w.cell? ⟨g, k * 3 + j, none⟩ = (encN (nd l k))[j]? := fun j hj => by
      have e := flatN_at l k hk j hj
      rw [← ht, List.getElem?_take, if_pos (by omega)] at e
      rw [hcell hg, e2, ← e]; simp
    exact ⟨g, cap, rfl, key 0 (by omega), key 1 (by omega), key 2 (by omega)⟩
abbrev RTs (b nb : Nat) (bits u : Int) (W : World) : Prop := W.cell? ⟨b, 3, none⟩ = some (.int .i64 bits) ∧ W.cell? ⟨nb, 0, none⟩ = some (.int .i64 u)
theorem r_not_ry (T : TypeId) (h : ryTy T = true) : rTy T = false := by
  unfold ryTy at h
  simp only [Bool.or_eq_true, beq_iff_eq] at h
  rcases h with (rfl | rfl) | rfl <;> rfl
structure Fz (b c : Nat) (w w' : World) : Prop where
  size : w.heap.size ≤ w'.heap.size
  cells : ∀ (k : Nat) (cs : Array Value) (T : TypeId) (fr : Nat × Nat), w.heap[k]? = some (.cells cs T fr) → rTy T = false → k ≠ b → k ≠ c → w'.heap[k]? = some (.cells cs T fr)
  map : ∀ (k : Nat) (es : Array MapEntry) (cl : Nat), w.heap[k]? = some (.map es cl) → w'.heap[k]? = some (.map es cl)
theorem Fz.trans {b c d : Nat} {w w' w'' : World} (h : Fz b c w w') (k : Fz b d w' w'') (hd : d = c ∨ w.heap.size ≤ d) : Fz b c w w'' :=
  ⟨Nat.le_trans h.size k.size, fun i cs T fr h1 h2 h3 h4 => k.cells i cs T fr (h.cells i cs T fr h1 h2 h3 h4) h2 h3 (by
    have := (Array.getElem?_eq_some_iff.1 h1).1
    rcases hd with rfl | hd
    · exact h4
    · omega), fun i es cl h1 => k.map i es cl (h.map i es cl h1)⟩
theorem kz_fr {w w' : World} (h : Fr rTy false w w') (b c : Nat) : Fz b c w w' := ⟨h.size, fun k cs T fr h1 h2 _ _ => h.cells k cs T fr h1 h2, fun k es cl h1 => h.map rfl k es cl h1⟩
theorem kz_below {w w' : World} (h : Below w.heap.size w w') (b c : Nat) : Fz b c w w' := kz_fr (below_fr h rTy false) b c
theorem rd_set16 {w0 w : World} {B : WB} {V : WV} {x : RS} {b o : Nat} {cs : Array Value} {T : TypeId} (h : RD w0 w B V x) (hb : w.heap[b]? = some (.cells cs T (0, 0))) (hT : rTy T = false) (hlo : w0.heap.size ≤ b) (v : Value) : RD w0 (w.setCell ⟨b, o, none⟩ v) B V x :=
  h.fr (set_ty hb o v) (fun X hX => by cases hXT : (X == T); rfl; rw [beq_iff_eq] at hXT; subst hXT; rw [hX] at hT; cases hT) (set_below h.below h.below.size hlo o v)
theorem rway_cellset {w : World} {lo b kr : Nat} {x y : WY} (h : RWayAt w lo b kr x) (o : Nat) (u : Value) (hy : y.bits = x.bits ∧ y.l = x.l ∧ y.way = x.way) (hc : ∀ vl vw, (x.rcells vl vw).setIfInBounds o u = y.rcells vl vw) :
    RWayAt (w.setCell ⟨b, o, none⟩ u) lo b kr y := by
  obtain ⟨h0, vl, vw, h1, h2, h3, h4⟩ := h
  obtain ⟨e1, e2, e3⟩ := hy
  have sk := setCell_keeps w b o u
  have g := setCell_same h1 o u
  rw [hc] at g
  refine ⟨h0, vl, vw, g, ?_, ?_, h4⟩
  · rw [e2]; exact own_keepsS h2 sk fun k hk c => by
      obtain ⟨cur, hc2⟩ := own_blk h2 hk
      exact cells_ne hc2 h1 (by decide) c
  · rw [e1, e3]; exact own_keepsS h3 sk fun k hk c => by
      obtain ⟨cur, hc2⟩ := own_blk h3 hk
      exact cells_ne hc2 h1 (by decide) c
theorem kz_set {w : World} {b o : Nat} {u : Value} {cs : Array Value} {T : TypeId} {fr : Nat × Nat} (hb : w.heap[b]? = some (.cells cs T fr)) (c : Nat) : Fz b c w (w.setCell ⟨b, o, none⟩ u) := by
  have sk := setCell_keeps w b o u
  refine ⟨sk.size, fun k cs T fr h1 _ h3 _ => (sk.block k (Array.getElem?_eq_some_iff.1 h1).1 h3).trans h1, fun k es cl h1 => (sk.block k (Array.getElem?_eq_some_iff.1 h1).1 (fun e => ?_)).trans h1⟩
  subst e; rw [h1] at hb; cases hb
theorem kb_of {a : Option Addr} {n cap k kb xb : Nat} (hk : KbOk (.slice a n cap) kb xb) (h : (Value.slice a n cap).ownBlock = some k) : k = kb := by
  rcases hk with e | ⟨e, -⟩
  · rw [e] at h; exact (Option.some.inj h).symm
  · rw [e] at h; cases h
theorem radd_all {w0 w W w6 : World} {R : WB} {V : WV} {xr : RS} {b kr kr2 nb n cap c6 kb : Nat} {a : Option Addr} {x : WY} {lk : List Nd} {y : Nd} {C N3 : Array Value} (h : RD w0 W R V xr) (hx : RWayAt W w0.heap.size b kr2 { x with l := lk }) (hn : W.heap[nb]? = some (.cells N3 141 (0, 0))) (hf : Fz b kr w W)
    (hc : W.cell? ⟨b, 1, none⟩ = some (.slice a n cap)) (hlen : n = lk.length) (hkr : kr2 = kr ∨ w.heap.size < kr2) (hnb : nb = w.heap.size) (hkw : kr < w.heap.size)
    (hown : w6.ownsRow w0.heap.size 141 3 (.slice (some ⟨kb, 0, none⟩) (n + 1) c6) (n + 1) (flatN lk ++ encN y)) (hgr : ((W.drew).alloc (.cells C 141)).grownBy w6 (Value.slice a n cap).ownBlock) (hat : (Value.slice a n cap).ownBlock = some kb ∨ kb = W.heap.size + 1) :
    RD w0 (w6.setCell ⟨b, 1, none⟩ (.slice (some ⟨kb, 0, none⟩) (n + 1) c6)) R V xr ∧ RWayAt (w6.setCell ⟨b, 1, none⟩ (.slice (some ⟨kb, 0, none⟩) (n + 1) c6)) w0.heap.size b kb { x with l := lk ++ [y] } ∧ (w6.setCell ⟨b, 1, none⟩ (.slice (some ⟨kb, 0, none⟩) (n + 1) c6)).heap[nb]? = some (.cells N3 141 (0, 0)) ∧ Fz b kr w (w6.setCell ⟨b, 1, none⟩ (.slice (some ⟨kb, 0, none⟩) (n + 1) c6)) ∧ (kb = kr ∨ w.heap.size < kb) := by
  subst hlen
  obtain ⟨h0, vl, vw, h1, h2, h3, h4⟩ := hx
  obtain rfl : vl = .slice a lk.length cap := by rw [hcell h1] at hc; exact Option.some.inj hc
  have hb1 : Below W.heap.size W ((W.drew).alloc (.cells C 141)) := ((Below.refl _ _).drew).alloc (Nat.le_refl _) _
  have hs1 : ((W.drew).alloc (.cells C 141)).heap.size = W.heap.size + 1 := by simp
  have hkk := grown_keeps hgr
  have f0 := below_fr hb1 (fun _ => false) false
  have h11 := (hb1.block _ (Array.getElem?_eq_some_iff.1 h1).1).trans h1
  have h21 := own_fr h2 f0 rfl
  have hn1 := (hb1.block _ (Array.getElem?_eq_some_iff.1 hn).1).trans hn
  have hkn : kr2 ≠ nb := by omega
  have hob : ∀ k, (Value.slice a lk.length cap).ownBlock = some k → k = kr2 := fun k hk => kb_of h4 hk
  have hbn : b ≠ nb := fun e => by
    have := hn.symm.trans (e ▸ h1)
    simp only [Option.some.injEq, Obj.cells.injEq] at this
    exact absurd this.2.1 (by decide)
  have hbk : ∀ k, (Value.slice a lk.length cap).ownBlock = some k → k ≠ b := fun k hk => by
    obtain ⟨cur, hc⟩ := own_blk h2 hk
    exact cells_ne hc h1 (by decide)
  have fin := radd_fin (x := { x with l := lk }) h0 h11 h21 (own_fr h3 f0 rfl) hown hkk (by rcases hat with e | e; exact .inl e; exact .inr (by omega))
  have f6 := grown_ty h21 hgr
  have hB6 := grown_below h21 hgr (h.keep hb1).below (h.keep hb1).below.size (Nat.le_refl _)
  have r6 := (h.keep hb1).fr f6 (fun T hT => by
    cases hc : (T == 141)
    · rfl
    · rw [beq_iff_eq] at hc; subst hc; cases hT) hB6
  have hx6 := (hkk.block b (Array.getElem?_eq_some_iff.1 h11).1 (fun c => hbk b c rfl)).trans h11
  have hn6 := (hkk.block nb (Array.getElem?_eq_some_iff.1 hn1).1 (fun c => hkn (hob nb c).symm)).trans hn1
  have sk := setCell_keeps w6 b 1 (.slice (some ⟨kb, 0, none⟩) (lk.length + 1) c6)
  have z6 : Fz b kr2 ((W.drew).alloc (.cells C 141)) w6 := ⟨hkk.size, fun k cs T fr g1 g2 g3 g4 => (hkk.block k (Array.getElem?_eq_some_iff.1 g1).1 (fun c => g4 (hob k c))).trans g1, fun k es cl g1 => (hkk.block k (Array.getElem?_eq_some_iff.1 g1).1 (fun c => by
    obtain ⟨cur, hc⟩ := own_blk h21 c
    rw [g1] at hc; cases hc)).trans g1⟩
  have zE := ((kz_below hb1 b kr2).trans z6 (.inl rfl)).trans (kz_set (o := 1) (u := .slice (some ⟨kb, 0, none⟩) (lk.length + 1) c6) hx6 kr2) (.inl rfl)
  refine ⟨rd_set16 r6 hx6 (by decide) h0 _, fin, (sk.block nb (Array.getElem?_eq_some_iff.1 hn6).1 (fun c => hbn c.symm)).trans hn6, hf.trans zE (by rcases hkr with e | e; exact .inl e; exact .inr (by omega)), ?_⟩
  rcases hat with e | e
  · rw [hob kb e]; exact hkr
  · right; have := hf.size; omega
set_option maxRecDepth 10000 in
set_option maxHeartbeats 4000000 in
theorem rstep_full {w0 w : World} {B : WB} {V : WV} {xr : RS} {b kr : Nat} {x : WY} (h : RD w0 w B V xr) (hr : xr.room) (hx : RWayAt w w0.heap.size b kr x) (hk : WyOk x) (hov : x.over = false) (v : Int) (hv : v = rlook xr.l (wyA x)) (hvb : 0 ≤ v ∧ v < 18446744073709551616) (hfe : frW v = -1) :
    Calls Tryz.prog 14 #[.pointer (some ⟨b, 0, none⟩), .pointer (some ⟨B.wb, 0, none⟩)] w fun e w' => e = .returned (.tuple #[]) ∧ ∃ kr', RD w0 w' B V (xr.acc 1 (wyA x) v) ∧ RWayAt w' w0.heap.size b kr' (x.next v) ∧ (kr' = kr ∨ w.heap.size ≤ kr') ∧ Fz b kr w w' := by
  have hat := hk.at_ hov
  obtain ⟨u, hu⟩ : ∃ u, u = (nd x.l x.at_).1 := ⟨_, rfl⟩
  obtain ⟨h0, vl, vw, h1, h2, h3, h4⟩ := id hx
  obtain ⟨g, cap, hvl, z0, z1, z2⟩ := row3_all h2 x.at_ hat
  obtain ⟨c0, c1, c2, c3, c4, c5⟩ := rwy_cells h1
  rw [hk.made, hov] at c0
  have c0 : w.cell? ⟨b, 0, none⟩ = some (.int .i64 1) := c0
  rw [hvl] at c1
  rw [← hu] at z0
  obtain ⟨nf, hnf⟩ : ∃ nf, nf = (nd x.l x.at_).2.1 := ⟨_, rfl⟩
  obtain ⟨ns, hns⟩ : ∃ ns : Int, ns = (if (nd x.l x.at_).2.1 = -1 then 0 else (nd x.l x.at_).2.2) := ⟨_, rfl⟩
  rw [← hnf] at z1
  rw [← hns] at z2
  have i0 : (0 : Int) ≤ x.at_ := by omega
  have i1 : (x.at_ : Int) < x.l.length := by omega
  have H := Lib.hid h; have HR := Lib.hid hr; have HX := Lib.hid hx; have HK := Lib.hid hk; have HV := Lib.hid hv; have HVB := Lib.hid hvb; have HU := Lib.hid hu; have HNF := Lib.hid hnf; have HNS := Lib.hid hns; have HAT := Lib.hid hat; have HOV := Lib.hid hov; have HVL := Lib.hid hvl
  have HFE0 := Lib.hid hfe; have HKW : Hid (kr < w.heap.size) := (by { rcases h4 with e | ⟨-, e⟩; obtain ⟨cur, hc⟩ := own_blk h2 e; exact (Array.getElem?_eq_some_iff.1 hc).1; rw [e]; exact (Array.getElem?_eq_some_iff.1 h1).1 }); have HC0 := Lib.hid c0; have HC1 := Lib.hid c1; have HC2 := Lib.hid c2; have HZ0 := Lib.hid z0; have HZ1 := Lib.hid z1; have HZ2 := Lib.hid z2
  clear hfe h hr hx hk hv hvb hu hnf hns hat hov hvl h0 h1 h2 h3 h4 c1 c2 c3 c4 c5 z0 z1 z2
  go_enter Tryz.func14, Tryz.ntmps14
  go_upto_region 1 with (fail)
  clear c0
  have al : ∀ (o : Obj) {q j : Nat} {u : Value}, w.cell? ⟨q, j, none⟩ = some u → (w.alloc o).cell? ⟨q, j, none⟩ = some u := fun o q j u hu => by rw [World.cell?_alloc_past _ _ _ (World.block_lt_of_cell? _ _ hu)]; exact hu
  have d1 : w.cell? ⟨b, 1, none⟩ = _ := HC1.out
  have d2 : w.cell? ⟨b, 2, none⟩ = _ := HC2.out
  have e0 : w.cell? ⟨g, x.at_ * 3, none⟩ = _ := HZ0.out
  have e1 : w.cell? ⟨g, x.at_ * 3 + 1, none⟩ = _ := HZ1.out
  have e2 : w.cell? ⟨g, x.at_ * 3 + 2, none⟩ = _ := HZ2.out
  have d1' := fun o => al o d1
  have d2' := fun o => al o d2
  have e0' := fun o => al o e0
  have e1' := fun o => al o e1
  have e2' := fun o => al o e2
  clear al
  go_region
  go_wp2_with (fail)
  have n1 := heap_alloc_new w (.cells #[.int .i64 u, .int .i64 nf, .int .i64 ns] 141)
  have k1 := (below_alloc w (.cells #[.int .i64 u, .int .i64 nf, .int .i64 ns] 141)).drew
  have n2 : (w.alloc (.cells #[.int .i64 u, .int .i64 nf, .int .i64 ns] 141)).drew.heap[w.heap.size]? = some (.cells #[.int .i64 u, .int .i64 nf, .int .i64 ns] 141 (0, 0)) := n1
  have H2 := Lib.hid (H.out.keep k1); have X2 := Lib.hid (HX.out.below k1); have K1 := Lib.hid k1; have N2 := Lib.hid n2
  clear d1 d2 e0 e1 e2 d1' d2' e0' e1' e2' i0 i1 n1 k1 n2
  generalize (w.alloc (.cells #[.int .i64 u, .int .i64 nf, .int .i64 ns] 141)).drew = w2 at *
  obtain ⟨nb, hnb⟩ : ∃ nb, nb = w.heap.size := ⟨_, rfl⟩
  rw [← hnb] at N2
  have NB := Lib.hid hnb
  try simp only [← hnb]
  clear hnb
  have hs2 : RTs b nb x.bits u w2.drew := by
    obtain ⟨va, vc, hz, -⟩ := X2.out.ex
    exact ⟨hcell hz 3, hcell N2.out 0⟩
  have hA : wyA x = tagsA x.bits u := by unfold wyA; rw [HU.out]
  have htg := fun W => rtags_any x.bits u W
  rw [← hA] at htg
  have hld := Lib.hid (fun W (hW : Below w2.heap.size w2 W) => rwload (H2.out.keep hW) HR.out (wyA x) (tagsA_wf _ _))
  clear hA
  go_region_held2 (fun W => RTs b nb x.bits u W) (assumption) (first
    | (go_at_call 56; refine (htg _).mono ?_; intro e w3 hh; obtain ⟨hh1, b3⟩ := hh; subst hh1; have b3' := (Below.refl w2.heap.size w2).drew.trans b3; have X3 := Lib.hid (X2.out.below b3'); have N3 := Lib.hid ((b3'.block _ (Array.getElem?_eq_some_iff.1 N2.out).1).trans N2.out); have K3 := Lib.hid (K1.out.trans (b3'.mono K1.out.size)); have s3 : RTs b nb x.bits u w3 := (by { obtain ⟨va, vc, hz, -⟩ := X3.out.ex; exact ⟨hcell hz 3, hcell N3.out 0⟩ }); have hld3 := hld.out w3 b3'; rw [← HV.out] at hld3; clear b3 b3' hs2 htg X2 N2)
    | (go_at_call 55; refine hld3.mono ?_; intro e w4 hh; obtain ⟨hh1, h4, f4⟩ := hh; subst hh1; have H4 := Lib.hid h4; have X4 := Lib.hid (X3.out.fr f4 r_not_ry); have N4 := Lib.hid (f4.cells _ _ _ _ N3.out rfl); have F4 := Lib.hid f4; have s4 : RTs b nb x.bits u w4 := (by { obtain ⟨va, vc, hz, -⟩ := X4.out.ex; exact ⟨hcell hz 3, hcell N4.out 0⟩ }); clear h4 f4 hld3 s3 X3 N3))
  have hfree := fun W => rfree_anyF v W HVB.out.1 HVB.out.2
  obtain ⟨fv, hfv⟩ : ∃ fv, fv = frW v := ⟨_, rfl⟩
  have hfw : fv = freeFrom v 0 4 := hfv
  rw [← hfw] at hfree
  have HFV := Lib.hid hfv
  have hfc := free_casesW v
  rw [← hfw] at hfc
  clear hfv hfw s4 hld
  have hfe : fv = -1 := by rw [HFV.out]; exact HFE0.out
  have hf' : ¬ (fv ≥ 0) := by omega
  have hfull := full_tags v HVB.out.1 (by rw [← HFV.out]; exact hfe)
  have HFULL := Lib.hid hfull; have HF := Lib.hid hfe
  clear hfull hfc hfe
  go_upto_region 10 with (go_at_call 57; refine (hfree _).mono ?_; intro e w5 hh; obtain ⟨hh1, hh2⟩ := hh; subst hh1; obtain rfl := hh2; clear hfree)
  have hF4 : Fz b kr w w4 := (kz_below K3.out b kr).trans (kz_fr F4.out b kr) (.inl rfl)
  have FZ := Lib.hid hF4
  have HO4 : Hid (∀ i, i < 4 → 0 ≤ otW x.bits v u i ∧ otW x.bits v u i < tsize x.bits) := fun i hi => oth_bdW u (tg v i) x.bits HK.out.bits (by have := HK.out.wf _ (nd_mem HAT.out); rw [← HU.out] at this; exact this.1) (HFULL.out i hi)
  clear hF4 hf'
  go_wp2_with (fail)
  go_loopw [7] (fun v7 wr => ∃ k kr2 : Nat, k ≤ 4 ∧ v7 = .int .i64 k ∧ RD w0 wr B V (xr.acc 1 (wyA x) v) ∧ RWayAt wr w0.heap.size b kr2 { x with l := wfirsts x.most (otW x.bits v) u x.at_ x.l k } ∧ wr.heap[nb]? = some (.cells #[.int .i64 u, .int .i64 nf, .int .i64 ns] 141 (0, 0)) ∧ Fz b kr w wr ∧ (kr2 = kr ∨ w.heap.size < kr2)) (fun v7 _ => 4 - (intOf v7).toNat)
  case atStart => exact ⟨0, kr, by omega, rfl, H4.out, X4.out, N4.out, FZ.out, .inl rfl⟩
  case round =>
    clear H4 X4 N4 FZ F4 K1 K3 H2 H
    obtain ⟨k, kr2, hk4, rfl, h5, x5, n5, f5, hkr⟩ := hrel
    obtain ⟨lk, hlk⟩ : ∃ lk, lk = wfirsts x.most (otW x.bits v) u x.at_ x.l k := ⟨_, rfl⟩
    rw [← hlk] at x5
    have hll := wfirsts_len x.most (otW x.bits v) u x.at_ x.l k
    rw [← hlk] at hll
    have hl4 := HK.out.len
    have HLK := Lib.hid hlk; have H5 := Lib.hid h5; have X5 := Lib.hid x5; have N5 := Lib.hid n5; have F5 := Lib.hid f5; have HKR := Lib.hid hkr; have HLL := Lib.hid (show lk.length ≤ 4200 by omega)
    clear hlk h5 x5 n5 f5 hkr hll hl4
    by_cases hlt : k < 4
    · have hlt' : (k : Int) < 4 := by omega
      have HLT := Lib.hid hlt
      have htg : tagOf v k = tg v k := by unfold tagOf; rw [if_pos (by omega), Int.toNat_natCast]
      have hTG := fun W => rtag_any v k W HVB.out.1 HVB.out.2
      rw [htg] at hTG
      have hOT := fun W => rother01_any u (tg v k) x.bits W
      have hoe : oth01 u (tg v k) x.bits = otW x.bits v u k := by
        have hu := HK.out.wf _ (nd_mem HAT.out)
        rw [← HU.out] at hu
        have ht := HFULL.out k hlt
        unfold oth01 otW oth
        rw [if_neg (by omega), mask_modW _ _ (by omega) (by omega) HK.out.bits]
      rw [hoe] at hOT
      have hs5 : RTs b nb x.bits u wr.drew := by
        obtain ⟨va, vc, hz, -⟩ := X5.out.ex
        exact ⟨hcell hz 3, hcell N5.out 0⟩
      clear htg hoe hlt hk4
      go_upto_region 13 with (fail)
      go_region_held2 (fun W => RTs b nb x.bits u W) (assumption) (first
        | (go_at_call 60; refine (hTG _).mono ?_; intro e w6 hh; obtain ⟨hh1, hh2⟩ := hh; subst hh1; obtain rfl := hh2; clear hTG)
        | (go_at_call 59; refine (hOT _).mono ?_; intro e w7 hh; obtain ⟨hh1, hh2⟩ := hh; subst hh1; obtain rfl := hh2.symm; clear hOT))
      have bd : Below wr.heap.size wr wr.drew := (Below.refl _ _).drew
      have H5d := Lib.hid (H5.out.keep bd); have X5d := Lib.hid (X5.out.below bd); have N5d : Hid (wr.drew.heap[nb]? = _) := N5.out; have F5d := Lib.hid (F5.out.trans (kz_below bd b kr) (.inl rfl))
      clear H5 X5 N5 F5 bd hs5
      go_wp2_with (fail)
      generalize wr.drew = w6 at *
      obtain ⟨va, vc, hz5, ho5, hw5, hk5⟩ := X5d.out.ex
      obtain ⟨av, cv, hva, -⟩ := own_sl3 ho5
      obtain ⟨c0, c1, c2, c3, c4, c5⟩ := rwy_cells hz5
      rw [hva] at c1
      simp only at c1 c4
      obtain ⟨q, hq⟩ : ∃ q, q = decide ((lk.length : Int) < x.most) := ⟨_, rfl⟩
      have hqd : decide ((lk.length : Int) < x.most) = q := hq.symm
      obtain ⟨o, ho⟩ : ∃ o, o = otW x.bits v u k := ⟨_, rfl⟩
      have hri : ∀ st : ExtW w6, Calls Tryz.prog 61 #[.pointer (some ⟨b, 0, none⟩), .int .i64 o] st.val fun e w' => e = .returned (.bool (decide (o ∈ bks lk))) ∧ Below st.val.heap.size st.val w' := fun st => (ris (X5d.out.below st.below) o (by have := HLL.out; simp only; omega)).mono fun e w' hh => ⟨hh.1, hh.2 ▸ Below.refl _ _⟩
      obtain ⟨r, hr⟩ : ∃ r, r = decide (o ∈ bks lk) := ⟨_, rfl⟩
      rw [← hr] at hri
      have y1 := fun st : ExtW w6 => st.cell c1
      have y4 := fun st : ExtW w6 => st.cell c4
      have HQ := Lib.hid hq; have HO := Lib.hid ho; have HRR := Lib.hid hr; have HZ5 := Lib.hid hz5; have HO5 := Lib.hid ho5; have HW5 := Lib.hid hw5; have HVA := Lib.hid hva
      clear c0 c1 c2 c3 c4 c5 hz5 ho5 hw5 hk5 hva hq hr 
      rw [← ho]
      clear ho
      by_cases hqr : q = true ∧ r = false
      · obtain ⟨rfl, rfl⟩ := hqr
        · refine wp_region_ext (by kernel_rfl) (by kernel_rfl) ?_
          repeat (go_big_quiet_step (first | (go_at_call 61; with_reducible refine calls_ext (hri _))))
          refine wpQuiet_nil ?_
          rintro W ⟨⟨W2, hW⟩, rfl⟩
          have H6 := Lib.hid (H5d.out.keep hW); have X6 := Lib.hid (X5d.out.below hW); have N6 := Lib.hid ((hW.block _ (Array.getElem?_eq_some_iff.1 N5d.out).1).trans N5d.out); have F6 := Lib.hid (F5d.out.trans (kz_below hW b kr) (.inl rfl)); have BW6 := Lib.hid hW
          clear y1 y4 hri hW
          go_upto_region 15 with (fail)
          obtain ⟨vl6, vw6, hz6, ho6, hw6, hk6⟩ := X6.out.ex
          obtain ⟨av6, cv6, hvl6, -⟩ := own_sl3 ho6
          have x1 : W.cell? ⟨b, 1, none⟩ = some (.slice av6 lk.length cv6) := by have hv : vl6 = .slice av6 lk.length cv6 := hvl6; rw [← hv]; exact hcell hz6 1
          have x2 : W.cell? ⟨b, 2, none⟩ = some (.int .i64 x.at_) := hcell hz6 2
          have al : ∀ (o : Obj) {q j : Nat} {u : Value}, W.cell? ⟨q, j, none⟩ = some u → (W.alloc o).cell? ⟨q, j, none⟩ = some u := fun o q j u hu => by rw [World.cell?_alloc_past _ _ _ (World.block_lt_of_cell? _ _ hu)]; exact hu
          have x1' := fun o => al o x1
          have x2' := fun o => al o x2
          have HC1 := Lib.hid x1
          have HNW2 : Hid (((W.drew).alloc (.cells #[.int .i64 o, .int .i64 x.at_, .int .i64 k] 141)).heap[W.heap.size]? = some (.cells #[.int .i64 o, .int .i64 x.at_, .int .i64 k] 141 (0, 0))) := heap_alloc_new (W.drew) _
          have HO6 : Hid (W.ownsRow w0.heap.size 141 3 (.slice av6 lk.length cv6) lk.length (flatN lk)) := Lib.hid (by have hv : vl6 = .slice av6 lk.length cv6 := hvl6; rw [← hv]; exact ho6)
          have HLOW := Lib.hid H6.out.below.size
          have HZ6 := Lib.hid hz6
          have HBK : Hid (∀ k, (Value.slice av6 lk.length cv6).ownBlock = some k → k ≠ b) := Lib.hid fun k hk => by
            obtain ⟨cur, hc⟩ := own_blk HO6.out hk
            exact cells_ne hc HZ6.out (by decide)
          obtain ⟨i0, hi0, hq0, hq1, hq2⟩ := info_parts info_node
          have HI := Lib.hid hi0; have HQ0 := Lib.hid hq0; have HQ1 := Lib.hid hq1; have HQ2 := Lib.hid hq2
          clear hz6 ho6 hw6 hk6 hvl6 al hi0 hq0 hq1 hq2
          go_region_law ((refine step_append_lies _ (by rfl) _ _ _ (by rfl) w0.heap.size 141 i0 _ 3 24 Tryz.underlying53 HI.out HQ0.out HQ1.out HQ2.out rfl (by decide) (.slice av6 lk.length cv6) lk.length (flatN lk) (by rfl) ((HO6.out.drew).alloc _) ⟨W.heap.size, 0, none⟩ 1 1 [.int .i64 o, .int .i64 x.at_, .int .i64 k] (by rfl) (by rfl) (World.news_of_block (cs := #[.int .i64 o, .int .i64 x.at_, .int .i64 k]) (t := 141) (fr := (0, 0)) HNW2.out) (by simp [Value.oneCell']) (by omega) (by have := HLL.out; unfold maxLen; omega) (by have := HLL.out; omega) (by have := HLOW.out; simp; omega) (W.heap.size + 1) (by simp) ?_; intro g2 cap2 w8 hown1 hgrow hat hlt4; have HOW := Lib.hid hown1; have HGR := Lib.hid hgrow; have HAT := Lib.hid hat; have hkk := grown_keeps hgrow; have hq4 := (hkk.block b (by have := (Array.getElem?_eq_some_iff.1 HZ6.out).1; simp; omega) (fun c => (HBK.out b c) rfl)).trans (((((Below.refl W.heap.size W).drew).alloc (Nat.le_refl _) (.cells #[.int .i64 o, .int .i64 x.at_, .int .i64 k] 141)).block _ (Array.getElem?_eq_some_iff.1 HZ6.out).1).trans HZ6.out); have t0 : w8.cell? ⟨b, 1, none⟩ = some vl6 := hcell hq4 1; have t1 := hfrz hq4 1; clear hown1 hgrow hat hlt4 hq4 hkk))
          all_goals
            have hfin := radd_all (y := (o, ((x.at_ : Int), ((k : Nat) : Int)))) H6.out X6.out N6.out F6.out HC1.out rfl HKR.out NB.out HKW.out (by
              have e : encN (o, ((x.at_ : Int), ((k : Nat) : Int))) = [.int .i64 o, .int .i64 x.at_, .int .i64 k] := by unfold encN; simp only; rw [if_neg (by omega)]
              rw [e]; exact HOW.out) HGR.out HAT.out
            have HFIN := Lib.hid hfin
            clear hfin x1 x2 x1' x2' t0 t1
            go_wp2_with (fail)
            go_roundw
            case measure => have := HLT.out; simp [intOf]; omega
            case rel =>
              refine ⟨k + 1, _, HLT.out, by have := HLT.out; go_num, HFIN.out.1, ?_, HFIN.out.2.2.1, HFIN.out.2.2.2.1, HFIN.out.2.2.2.2⟩
              have hsm : wfirsts x.most (otW x.bits v) u x.at_ x.l (k + 1) = lk ++ [(o, ((x.at_ : Int), ((k : Nat) : Int)))] := by
                rw [wfirsts_succ, ← HLK.out, ← HO.out]
                unfold wadd
                rw [if_pos ⟨of_decide_eq_true HQ.out.symm, of_decide_eq_false HRR.out.symm⟩]
              rw [hsm]
              exact HFIN.out.2.1
      · have hsm : wfirsts x.most (otW x.bits v) u x.at_ x.l (k + 1) = wfirsts x.most (otW x.bits v) u x.at_ x.l k := by
          rw [wfirsts_succ, ← HLK.out, ← HO.out]
          unfold wadd
          rw [if_neg]
          rintro ⟨c1, c2⟩
          exact hqr ⟨by rw [HQ.out]; exact decide_eq_true c1, by rw [HRR.out]; exact decide_eq_false c2⟩
        have HSM := Lib.hid hsm
        clear hsm
        cases q
        · clear hqr
          refine wp_region_ext (by kernel_rfl) (by kernel_rfl) ?_
          repeat (go_big_quiet_step (first | (go_at_call 61; with_reducible refine calls_ext (hri _))))
          refine wpQuiet_nil ?_
          rintro W ⟨⟨W2, hW⟩, rfl⟩
          have H6 := Lib.hid (H5d.out.keep hW); have X6 := Lib.hid (X5d.out.below hW); have N6 := Lib.hid ((hW.block _ (Array.getElem?_eq_some_iff.1 N5d.out).1).trans N5d.out); have F6 := Lib.hid (F5d.out.trans (kz_below hW b kr) (.inl rfl)); have BW6 := Lib.hid hW
          clear y1 y4 hri hW
          go_wp2_with (fail)
          go_roundw
          case measure => have := HLT.out; simp [intOf]; omega
          case rel =>
            refine ⟨k + 1, kr2, HLT.out, by have := HLT.out; go_num, H6.out, ?_, N6.out, F6.out, HKR.out⟩
            rw [HSM.out, ← HLK.out]
            exact X6.out
        · have hr1 : r = true := by cases r; exact absurd ⟨rfl, rfl⟩ hqr; rfl
          subst hr1
          clear hqr
          refine wp_region_ext (by kernel_rfl) (by kernel_rfl) ?_
          repeat (go_big_quiet_step (first | (go_at_call 61; with_reducible refine calls_ext (hri _))))
          refine wpQuiet_nil ?_
          rintro W ⟨⟨W2, hW⟩, rfl⟩
          have H6 := Lib.hid (H5d.out.keep hW); have X6 := Lib.hid (X5d.out.below hW); have N6 := Lib.hid ((hW.block _ (Array.getElem?_eq_some_iff.1 N5d.out).1).trans N5d.out); have F6 := Lib.hid (F5d.out.trans (kz_below hW b kr) (.inl rfl)); have BW6 := Lib.hid hW
          clear y1 y4 hri hW
          go_wp2_with (fail)
          go_roundw
          case measure => have := HLT.out; simp [intOf]; omega
          case rel =>
            refine ⟨k + 1, kr2, HLT.out, by have := HLT.out; go_num, H6.out, ?_, N6.out, F6.out, HKR.out⟩
            rw [HSM.out, ← HLK.out]
            exact X6.out
    · have hk4e : k = 4 := by omega
      subst hk4e
      have hat1 : Hid (x.at_ < 5000) := by have := HAT.out; have := HK.out.len; show x.at_ < 5000; omega
      have e9 : wrap64 ((x.at_ : Int) + 1) = ((x.at_ + 1 : Nat) : Int) := by
        have := hat1.out
        rw [w64_smW (by omega)]; push_cast; rfl
      obtain ⟨a1, ha1⟩ : ∃ a1, a1 = x.at_ + 1 := ⟨_, rfl⟩
      rw [← ha1] at e9
      have HA1 := Lib.hid ha1
      obtain ⟨va, vc, hz5, ho5, hw5, hk5⟩ := X5.out.ex
      obtain ⟨av, cv, hva, -⟩ := own_sl3 ho5
      have c2 : wr.cell? ⟨b, 2, none⟩ = some (.int .i64 x.at_) := hcell hz5 2
      have f2 := hfrz hz5 2
      have X6 := rway_cellset (y := { x with l := lk, at_ := a1 }) X5.out 2 (.int .i64 a1) ⟨rfl, rfl, rfl⟩ (fun _ _ => rfl)
      have H6 := rd_set16 (o := 2) H5.out hz5 (by decide) X5.out.low (.int .i64 a1)
      have F6 := F5.out.trans (kz_set (o := 2) (u := .int .i64 a1) hz5 kr) (.inl rfl)
      have z6 := setCell_same hz5 2 (.int .i64 a1)
      have HX6 := Lib.hid X6; have HH6 := Lib.hid H6; have HF6 := Lib.hid F6; have HZ6 := Lib.hid z6; have HVA := Lib.hid hva
      clear X6 H6 F6 z6 ha1 hz5 ho5 hw5 hk5 hva hlt hk4
      go_upto_region 17 with (fail)
      generalize wr.setCell ⟨b, 2, none⟩ (.int .i64 a1) = w7 at *
      clear c2 f2 e9
      have c1 : w7.cell? ⟨b, 1, none⟩ = some (.slice av lk.length cv) := by
        have hv : va = .slice av lk.length cv := HVA.out
        rw [← hv]; exact hcell HZ6.out 1
      have c2 : w7.cell? ⟨b, 2, none⟩ = some (.int .i64 a1) := hcell HZ6.out 2
      have y1 := fun st : ExtW w7 => st.cell c1
      have y2 := fun st : ExtW w7 => st.cell c2
      obtain ⟨q, hq⟩ : ∃ q, q = ((a1 : Int) == (lk.length : Int)) := ⟨_, rfl⟩
      have hq' : ((a1 : Int) == (lk.length : Int)) = q := hq.symm
      have hq2 : decide (x.at_ + 1 = lk.length) = q := by
        rw [hq, HA1.out]
        by_cases e : x.at_ + 1 = lk.length
        · rw [decide_eq_true e, e]; simp
        · rw [decide_eq_false e]; symm; rw [beq_eq_false_iff_ne]; omega
      have hnx : x.next v = { x with l := lk, at_ := a1, over := q } := by
        unfold WY.next
        rw [if_pos (by rw [← HFV.out]; exact HF.out), ← HU.out, ← wfirsts_four, ← HLK.out, hq2, ← HA1.out]
      have HNX := Lib.hid hnx
      clear hq hq2 hnx c1 c2
      cases q
      · refine wp_region_ext (by kernel_rfl) (by kernel_rfl) ?_
        repeat (go_big_quiet_step (fail))
        refine wpQuiet_nil ?_
        rintro W ⟨⟨W2, hW⟩, rfl⟩
        have h8 := HH6.out.keep hW; have x8 := HX6.out.below hW; have f8 := HF6.out.trans (kz_below hW b kr) (.inl rfl)
        have P := Lib.hid (And.intro h8 (And.intro x8 f8))
        clear y1 y2 h8 x8 f8 hW
        go_wp2_with (fail)
        go_end0
        refine ⟨rfl, P.out.1, kr2, ?_, HKR.out.imp id Nat.le_of_lt, P.out.2.2⟩
        rw [HNX.out]
        have := P.out.2.1
        rw [show ({ x with l := lk, at_ := a1 } : WY) = { x with l := lk, at_ := a1, over := false } from by rw [← HOV.out]] at this
        exact this
      · refine wp_region_ext (by kernel_rfl) (by kernel_rfl) ?_
        repeat (go_big_quiet_step (fail))
        refine wpQuiet_nil ?_
        rintro W ⟨⟨W2, hW⟩, rfl⟩
        have h8 := HH6.out.keep hW; have x8 := HX6.out.below hW; have f8 := HF6.out.trans (kz_below hW b kr) (.inl rfl)
        have z8 := (hW.block _ (Array.getElem?_eq_some_iff.1 HZ6.out).1).trans HZ6.out
        have c0 : W.cell? ⟨b, 0, none⟩ = some (.int .i64 (if (!x.made || x.over) = true then 0 else 1)) := hcell z8 0
        have f0 := hfrz z8 0
        have x9 := rway_cellset (y := { x with l := lk, at_ := a1, over := true }) x8 0 (.int .i64 0) ⟨rfl, rfl, rfl⟩ (fun vl vw => by
          unfold WY.rcells
          simp only
          rw [if_pos (show (!x.made || true) = true from by simp)]; rfl)
        have h9 := rd_set16 (o := 0) h8 z8 (by decide) x8.low (.int .i64 0)
        have f9 := f8.trans (kz_set (o := 0) (u := .int .i64 0) z8 kr) (.inl rfl)
        have P := Lib.hid (And.intro h9 (And.intro x9 f9))
        clear y1 y2 h8 x8 f8 hW z8 x9 h9 f9
        go_wp2_with (fail)
        go_end0
        refine ⟨rfl, P.out.1, kr2, ?_, HKR.out.imp id Nat.le_of_lt, P.out.2.2⟩
        rw [HNX.out]
        exact P.out.2.1
end Go.Proofs.YtmakjfeepmiggaaGreat