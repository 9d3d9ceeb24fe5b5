/-
  Texts of this prover, merged: RefWaySt, RefWayFr, RefWayStp, WayRun, Grows, GrowDo, GrowLives, PathsTab, PathsRun, PathsLives.
-/
import Derived.Test.YtomllmlieeaaiaaGreatP3
import Derived.Test.YtomllmlieeaaiaaGreatP1
import Derived.Test.YtomllmlieeaaiaaGreatP2
import Derived.Test.YtomllmlieeaaiaaGreatOpen
import Derived.Deep.RegionHeld2
/-
  Layer 16: a step of the document's Way.
-/
namespace Go.Proofs.YtomllmlieeaaiaaGreat
open Go.RowKit Go.Maps TagPure
set_option linter.unusedVariables false

theorem rstep_off {w : World} {lo b kr : Nat} {x : WY} (h : RWayAt w lo b kr x) (ho : (!x.made || x.over) = true) (v : Value) : Calls Tryz.prog 19 #[.pointer (some ⟨b, 0, none⟩), v] w fun e w' => e = .returned (.tuple #[]) ∧ w' = w := by
  obtain ⟨_, vl, vw, h1, -⟩ := h
  obtain ⟨c0, -⟩ := rwy_cells h1
  rw [if_pos ho] at c0
  have c0 : w.cell? ⟨b, 0, none⟩ = some (.int .i64 0) := c0
  clear h1 ho
  go_enter Tryz.func19, Tryz.ntmps19
  go_wp2
  exact bodyPost_ret (v := .tuple #[]) (by simp [results, Tryz.results19, go_sem]) rfl ⟨rfl, rfl⟩
theorem row3_all {w : World} {lo : Nat} {v : Value} {l : List Nd} (h : w.ownsRow lo 192 3 v l.length (flatN l)) (k : Nat) (hk : k < l.length) : ∃ g cap, v = .slice (some ⟨g, 0, none⟩) l.length cap ∧ w.cell? ⟨g, k * 3, none⟩ = some (.int .i64 (nd l k).1) ∧ w.cell? ⟨g, k * 3 + 1, none⟩ = some (.int .i64 (nd l k).2.1) ∧ w.cell? ⟨g, k * 3 + 2, none⟩ = some (.int .i64 (if (nd l k).2.1 = -1 then 0 else (nd l k).2.2)) := by
  obtain ⟨_, ⟨rfl, h0⟩ | ⟨g, cap, cur, rfl, _, hg, hn, hm, hs, ht⟩⟩ := h
  · omega
  · have e2 : (nd l k) = l[k] := by unfold nd; rw [List.getD_eq_getElem?_getD, List.getElem?_eq_getElem hk]; rfl
    have key : ∀ j, j < 3 → w.cell? ⟨g, k * 3 + j, none⟩ = (encN (nd l k))[j]? := fun j hj => by
      have e := flatN_at l k hk j hj
      rw [← ht, List.getElem?_take, if_pos (by omega)] at e
      rw [hcell hg, e2, ← e]; simp
    exact ⟨g, cap, rfl, key 0 (by omega), key 1 (by omega), key 2 (by omega)⟩
abbrev RTs (b nb : Nat) (bits u : Int) (W : World) : Prop := W.cell? ⟨b, 3, none⟩ = some (.int .i64 bits) ∧ W.cell? ⟨nb, 0, none⟩ = some (.int .i64 u)
theorem r_not_ry (T : TypeId) (h : ryTy T = true) : rTy T = false := by
  unfold ryTy at h
  simp only [Bool.or_eq_true, beq_iff_eq] at h
  rcases h with (rfl | rfl) | rfl <;> rfl
/-- A frame: of the old blocks only such of the document's world, and two, have turned. -/
structure Fz (b c : Nat) (w w' : World) : Prop where
  size : w.heap.size ≤ w'.heap.size
  cells : ∀ (k : Nat) (cs : Array Value) (T : TypeId) (fr : Nat × Nat), w.heap[k]? = some (.cells cs T fr) → rTy T = false → k ≠ b → k ≠ c → w'.heap[k]? = some (.cells cs T fr)
  map : ∀ (k : Nat) (es : Array MapEntry) (cl : Nat), w.heap[k]? = some (.map es cl) → w'.heap[k]? = some (.map es cl)
theorem Fz.trans {b c d : Nat} {w w' w'' : World} (h : Fz b c w w') (k : Fz b d w' w'') (hd : d = c ∨ w.heap.size ≤ d) : Fz b c w w'' :=
  ⟨Nat.le_trans h.size k.size, fun i cs T fr h1 h2 h3 h4 => k.cells i cs T fr (h.cells i cs T fr h1 h2 h3 h4) h2 h3 (by
    have := (Array.getElem?_eq_some_iff.1 h1).1
    rcases hd with rfl | hd
    · exact h4
    · omega), fun i es cl h1 => k.map i es cl (h.map i es cl h1)⟩
theorem kz_fr {w w' : World} (h : Fr rTy false w w') (b c : Nat) : Fz b c w w' := ⟨h.size, fun k cs T fr h1 h2 _ _ => h.cells k cs T fr h1 h2, fun k es cl h1 => h.map rfl k es cl h1⟩
theorem kz_below {w w' : World} (h : Below w.heap.size w w') (b c : Nat) : Fz b c w w' := kz_fr (below_fr h rTy false) b c
theorem rd_set16 {w0 w : World} {B : WB} {V : WV} {x : RS} {b o : Nat} {cs : Array Value} {T : TypeId} (h : RD w0 w B V x) (hb : w.heap[b]? = some (.cells cs T (0, 0))) (hT : rTy T = false) (hlo : w0.heap.size ≤ b) (v : Value) : RD w0 (w.setCell ⟨b, o, none⟩ v) B V x :=
  h.fr (set_ty hb o v) (fun X hX => by cases hXT : (X == T); rfl; rw [beq_iff_eq] at hXT; subst hXT; rw [hX] at hT; cases hT) (set_below h.below h.below.size hlo o v)
theorem rway_cellset {w : World} {lo b kr : Nat} {x y : WY} (h : RWayAt w lo b kr x) (o : Nat) (u : Value) (hy : y.bits = x.bits ∧ y.l = x.l ∧ y.way = x.way) (hc : ∀ vl vw, (x.rcells vl vw).setIfInBounds o u = y.rcells vl vw) :
    RWayAt (w.setCell ⟨b, o, none⟩ u) lo b kr y := by
  obtain ⟨h0, vl, vw, h1, h2, h3, h4⟩ := h
  obtain ⟨e1, e2, e3⟩ := hy
  have sk := setCell_keeps w b o u
  have g := setCell_same h1 o u
  rw [hc] at g
  refine ⟨h0, vl, vw, g, ?_, ?_, h4⟩
  · rw [e2]; exact own_keepsS h2 sk fun k hk c => by
      obtain ⟨cur, hc2⟩ := own_blk h2 hk
      exact cells_ne hc2 h1 (by decide) c
  · rw [e1, e3]; exact own_keepsS h3 sk fun k hk c => by
      obtain ⟨cur, hc2⟩ := own_blk h3 hk
      exact cells_ne hc2 h1 (by decide) c
theorem kz_set {w : World} {b o : Nat} {u : Value} {cs : Array Value} {T : TypeId} {fr : Nat × Nat} (hb : w.heap[b]? = some (.cells cs T fr)) (c : Nat) : Fz b c w (w.setCell ⟨b, o, none⟩ u) := by
  have sk := setCell_keeps w b o u
  refine ⟨sk.size, fun k cs T fr h1 _ h3 _ => (sk.block k (Array.getElem?_eq_some_iff.1 h1).1 h3).trans h1, fun k es cl h1 => (sk.block k (Array.getElem?_eq_some_iff.1 h1).1 (fun e => ?_)).trans h1⟩
  subst e; rw [h1] at hb; cases hb
theorem kb_of {a : Option Addr} {n cap k kb xb : Nat} (hk : KbOk (.slice a n cap) kb xb) (h : (Value.slice a n cap).ownBlock = some k) : k = kb := by
  rcases hk with e | ⟨e, -⟩
  · rw [e] at h; exact (Option.some.inj h).symm
  · rw [e] at h; cases h
/-- Behind a node more. -/
theorem radd_all {w0 w W w6 : World} {R : WB} {V : WV} {xr : RS} {b kr kr2 nb n cap c6 kb : Nat} {a : Option Addr} {x : WY} {lk : List Nd} {y : Nd} {C N3 : Array Value} (h : RD w0 W R V xr) (hx : RWayAt W w0.heap.size b kr2 { x with l := lk }) (hn : W.heap[nb]? = some (.cells N3 192 (0, 0))) (hf : Fz b kr w W)
    (hc : W.cell? ⟨b, 1, none⟩ = some (.slice a n cap)) (hlen : n = lk.length) (hkr : kr2 = kr ∨ w.heap.size < kr2) (hnb : nb = w.heap.size) (hkw : kr < w.heap.size)
    (hown : w6.ownsRow w0.heap.size 192 3 (.slice (some ⟨kb, 0, none⟩) (n + 1) c6) (n + 1) (flatN lk ++ encN y)) (hgr : ((W.drew).alloc (.cells C 192)).grownBy w6 (Value.slice a n cap).ownBlock) (hat : (Value.slice a n cap).ownBlock = some kb ∨ kb = W.heap.size + 1) :
    RD w0 (w6.setCell ⟨b, 1, none⟩ (.slice (some ⟨kb, 0, none⟩) (n + 1) c6)) R V xr ∧ RWayAt (w6.setCell ⟨b, 1, none⟩ (.slice (some ⟨kb, 0, none⟩) (n + 1) c6)) w0.heap.size b kb { x with l := lk ++ [y] } ∧ (w6.setCell ⟨b, 1, none⟩ (.slice (some ⟨kb, 0, none⟩) (n + 1) c6)).heap[nb]? = some (.cells N3 192 (0, 0)) ∧ Fz b kr w (w6.setCell ⟨b, 1, none⟩ (.slice (some ⟨kb, 0, none⟩) (n + 1) c6)) ∧ (kb = kr ∨ w.heap.size < kb) := by
  subst hlen
  obtain ⟨h0, vl, vw, h1, h2, h3, h4⟩ := hx
  obtain rfl : vl = .slice a lk.length cap := by rw [hcell h1] at hc; exact Option.some.inj hc
  have hb1 : Below W.heap.size W ((W.drew).alloc (.cells C 192)) := ((Below.refl _ _).drew).alloc (Nat.le_refl _) _
  have hs1 : ((W.drew).alloc (.cells C 192)).heap.size = W.heap.size + 1 := by simp
  have hkk := grown_keeps hgr
  have f0 := below_fr hb1 (fun _ => false) false
  have h11 := (hb1.block _ (Array.getElem?_eq_some_iff.1 h1).1).trans h1
  have h21 := own_fr h2 f0 rfl
  have hn1 := (hb1.block _ (Array.getElem?_eq_some_iff.1 hn).1).trans hn
  have hkn : kr2 ≠ nb := by omega
  have hob : ∀ k, (Value.slice a lk.length cap).ownBlock = some k → k = kr2 := fun k hk => kb_of h4 hk
  have hbn : b ≠ nb := fun e => by
    have := hn.symm.trans (e ▸ h1)
    simp only [Option.some.injEq, Obj.cells.injEq] at this
    exact absurd this.2.1 (by decide)
  have hbk : ∀ k, (Value.slice a lk.length cap).ownBlock = some k → k ≠ b := fun k hk => by
    obtain ⟨cur, hc⟩ := own_blk h2 hk
    exact cells_ne hc h1 (by decide)
  have fin := radd_fin (x := { x with l := lk }) h0 h11 h21 (own_fr h3 f0 rfl) hown hkk (by rcases hat with e | e; exact .inl e; exact .inr (by omega))
  have f6 := grown_ty h21 hgr
  have hB6 := grown_below h21 hgr (h.keep hb1).below (h.keep hb1).below.size (Nat.le_refl _)
  have r6 := (h.keep hb1).fr f6 (fun T hT => by
    cases hc : (T == 192)
    · rfl
    · rw [beq_iff_eq] at hc; subst hc; cases hT) hB6
  have hx6 := (hkk.block b (Array.getElem?_eq_some_iff.1 h11).1 (fun c => hbk b c rfl)).trans h11
  have hn6 := (hkk.block nb (Array.getElem?_eq_some_iff.1 hn1).1 (fun c => hkn (hob nb c).symm)).trans hn1
  have sk := setCell_keeps w6 b 1 (.slice (some ⟨kb, 0, none⟩) (lk.length + 1) c6)
  have z6 : Fz b kr2 ((W.drew).alloc (.cells C 192)) w6 := ⟨hkk.size, fun k cs T fr g1 g2 g3 g4 => (hkk.block k (Array.getElem?_eq_some_iff.1 g1).1 (fun c => g4 (hob k c))).trans g1, fun k es cl g1 => (hkk.block k (Array.getElem?_eq_some_iff.1 g1).1 (fun c => by
    obtain ⟨cur, hc⟩ := own_blk h21 c
    rw [g1] at hc; cases hc)).trans g1⟩
  have zE := ((kz_below hb1 b kr2).trans z6 (.inl rfl)).trans (kz_set (o := 1) (u := .slice (some ⟨kb, 0, none⟩) (lk.length + 1) c6) hx6 kr2) (.inl rfl)
  refine ⟨rd_set16 r6 hx6 (by decide) h0 _, fin, (sk.block nb (Array.getElem?_eq_some_iff.1 hn6).1 (fun c => hbn c.symm)).trans hn6, hf.trans zE (by rcases hkr with e | e; exact .inl e; exact .inr (by omega)), ?_⟩
  rcases hat with e | e
  · rw [hob kb e]; exact hkr
  · right; have := hf.size; omega
set_option maxRecDepth 10000 in
set_option maxHeartbeats 4000000 in
theorem rstep_full {w0 w : World} {B : WB} {V : WV} {xr : RS} {b kr : Nat} {x : WY} (h : RD w0 w B V xr) (hr : xr.room) (hx : RWayAt w w0.heap.size b kr x) (hk : WyOk x) (hov : x.over = false) (v : Int) (hv : v = rlook xr.l (wyA x)) (hvb : 0 ≤ v ∧ v < 18446744073709551616) (hfe : frW v = -1) :
    Calls Tryz.prog 19 #[.pointer (some ⟨b, 0, none⟩), .pointer (some ⟨B.wb, 0, none⟩)] w fun e w' => e = .returned (.tuple #[]) ∧ ∃ kr', RD w0 w' B V (xr.acc 1 (wyA x) v) ∧ RWayAt w' w0.heap.size b kr' (x.next v) ∧ (kr' = kr ∨ w.heap.size ≤ kr') ∧ Fz b kr w w' := by
  have hat := hk.at_ hov
  obtain ⟨u, hu⟩ : ∃ u, u = (nd x.l x.at_).1 := ⟨_, rfl⟩
  obtain ⟨h0, vl, vw, h1, h2, h3, h4⟩ := id hx
  obtain ⟨g, cap, hvl, z0, z1, z2⟩ := row3_all h2 x.at_ hat
  obtain ⟨c0, c1, c2, c3, c4, c5⟩ := rwy_cells h1
  rw [hk.made, hov] at c0
  have c0 : w.cell? ⟨b, 0, none⟩ = some (.int .i64 1) := c0
  rw [hvl] at c1
  rw [← hu] at z0
  obtain ⟨nf, hnf⟩ : ∃ nf, nf = (nd x.l x.at_).2.1 := ⟨_, rfl⟩
  obtain ⟨ns, hns⟩ : ∃ ns : Int, ns = (if (nd x.l x.at_).2.1 = -1 then 0 else (nd x.l x.at_).2.2) := ⟨_, rfl⟩
  rw [← hnf] at z1
  rw [← hns] at z2
  have i0 : (0 : Int) ≤ x.at_ := by omega
  have i1 : (x.at_ : Int) < x.l.length := by omega
  have H := Lib.hid h; have HR := Lib.hid hr; have HX := Lib.hid hx; have HK := Lib.hid hk; have HV := Lib.hid hv; have HVB := Lib.hid hvb; have HU := Lib.hid hu; have HNF := Lib.hid hnf; have HNS := Lib.hid hns; have HAT := Lib.hid hat; have HOV := Lib.hid hov; have HVL := Lib.hid hvl
  have HFE0 := Lib.hid hfe; have HKW : Hid (kr < w.heap.size) := (by { rcases h4 with e | ⟨-, e⟩; obtain ⟨cur, hc⟩ := own_blk h2 e; exact (Array.getElem?_eq_some_iff.1 hc).1; rw [e]; exact (Array.getElem?_eq_some_iff.1 h1).1 }); have HC0 := Lib.hid c0; have HC1 := Lib.hid c1; have HC2 := Lib.hid c2; have HZ0 := Lib.hid z0; have HZ1 := Lib.hid z1; have HZ2 := Lib.hid z2
  clear hfe h hr hx hk hv hvb hu hnf hns hat hov hvl h0 h1 h2 h3 h4 c1 c2 c3 c4 c5 z0 z1 z2
  go_enter Tryz.func19, Tryz.ntmps19
  go_upto_region 1 with (fail)
  clear c0
  have al : ∀ (o : Obj) {q j : Nat} {u : Value}, w.cell? ⟨q, j, none⟩ = some u → (w.alloc o).cell? ⟨q, j, none⟩ = some u := fun o q j u hu => by rw [World.cell?_alloc_past _ _ _ (World.block_lt_of_cell? _ _ hu)]; exact hu
  have d1 : w.cell? ⟨b, 1, none⟩ = _ := HC1.out
  have d2 : w.cell? ⟨b, 2, none⟩ = _ := HC2.out
  have e0 : w.cell? ⟨g, x.at_ * 3, none⟩ = _ := HZ0.out
  have e1 : w.cell? ⟨g, x.at_ * 3 + 1, none⟩ = _ := HZ1.out
  have e2 : w.cell? ⟨g, x.at_ * 3 + 2, none⟩ = _ := HZ2.out
  have d1' := fun o => al o d1
  have d2' := fun o => al o d2
  have e0' := fun o => al o e0
  have e1' := fun o => al o e1
  have e2' := fun o => al o e2
  clear al
  go_region
  go_wp2_with (fail)
  have n1 := heap_alloc_new w (.cells #[.int .i64 u, .int .i64 nf, .int .i64 ns] 192)
  have k1 := (below_alloc w (.cells #[.int .i64 u, .int .i64 nf, .int .i64 ns] 192)).drew
  have n2 : (w.alloc (.cells #[.int .i64 u, .int .i64 nf, .int .i64 ns] 192)).drew.heap[w.heap.size]? = some (.cells #[.int .i64 u, .int .i64 nf, .int .i64 ns] 192 (0, 0)) := n1
  have H2 := Lib.hid (H.out.keep k1); have X2 := Lib.hid (HX.out.below k1); have K1 := Lib.hid k1; have N2 := Lib.hid n2
  clear d1 d2 e0 e1 e2 d1' d2' e0' e1' e2' i0 i1 n1 k1 n2
  generalize (w.alloc (.cells #[.int .i64 u, .int .i64 nf, .int .i64 ns] 192)).drew = w2 at *
  obtain ⟨nb, hnb⟩ : ∃ nb, nb = w.heap.size := ⟨_, rfl⟩
  rw [← hnb] at N2
  have NB := Lib.hid hnb
  try simp only [← hnb]
  clear hnb
  have hs2 : RTs b nb x.bits u w2.drew := by
    obtain ⟨va, vc, hz, -⟩ := X2.out.ex
    exact ⟨hcell hz 3, hcell N2.out 0⟩
  have hA : wyA x = tagsA x.bits u := by unfold wyA; rw [HU.out]
  have htg := fun W => rtags_any x.bits u W
  rw [← hA] at htg
  have hld := Lib.hid (fun W (hW : Below w2.heap.size w2 W) => rwload (H2.out.keep hW) HR.out (wyA x) (tagsA_wf _ _))
  clear hA
  go_region_held2 (fun W => RTs b nb x.bits u W) (assumption) (first
    | (go_at_call 88; refine (htg _).mono ?_; intro e w3 hh; obtain ⟨hh1, b3⟩ := hh; subst hh1; have b3' := (Below.refl w2.heap.size w2).drew.trans b3; have X3 := Lib.hid (X2.out.below b3'); have N3 := Lib.hid ((b3'.block _ (Array.getElem?_eq_some_iff.1 N2.out).1).trans N2.out); have K3 := Lib.hid (K1.out.trans (b3'.mono K1.out.size)); have s3 : RTs b nb x.bits u w3 := (by { obtain ⟨va, vc, hz, -⟩ := X3.out.ex; exact ⟨hcell hz 3, hcell N3.out 0⟩ }); have hld3 := hld.out w3 b3'; rw [← HV.out] at hld3; clear b3 b3' hs2 htg X2 N2)
    | (go_at_call 87; refine hld3.mono ?_; intro e w4 hh; obtain ⟨hh1, h4, f4⟩ := hh; subst hh1; have H4 := Lib.hid h4; have X4 := Lib.hid (X3.out.fr f4 r_not_ry); have N4 := Lib.hid (f4.cells _ _ _ _ N3.out rfl); have F4 := Lib.hid f4; have s4 : RTs b nb x.bits u w4 := (by { obtain ⟨va, vc, hz, -⟩ := X4.out.ex; exact ⟨hcell hz 3, hcell N4.out 0⟩ }); clear h4 f4 hld3 s3 X3 N3))
  have hfree := fun W => rfree_anyF v W HVB.out.1 HVB.out.2
  obtain ⟨fv, hfv⟩ : ∃ fv, fv = frW v := ⟨_, rfl⟩
  have hfw : fv = freeFrom v 0 4 := hfv
  rw [← hfw] at hfree
  have HFV := Lib.hid hfv
  have hfc := free_casesW v
  rw [← hfw] at hfc
  clear hfv hfw s4 hld
  have hfe : fv = -1 := by rw [HFV.out]; exact HFE0.out
  have hf' : ¬ (fv ≥ 0) := by omega
  have hfull := full_tags v HVB.out.1 (by rw [← HFV.out]; exact hfe)
  have HFULL := Lib.hid hfull; have HF := Lib.hid hfe
  clear hfull hfc hfe
  go_upto_region 10 with (go_at_call 89; refine (hfree _).mono ?_; intro e w5 hh; obtain ⟨hh1, hh2⟩ := hh; subst hh1; obtain rfl := hh2; clear hfree)
  have hF4 : Fz b kr w w4 := (kz_below K3.out b kr).trans (kz_fr F4.out b kr) (.inl rfl)
  have FZ := Lib.hid hF4
  have HO4 : Hid (∀ i, i < 4 → 0 ≤ otW x.bits v u i ∧ otW x.bits v u i < tsize x.bits) := fun i hi => oth_bdW u (tg v i) x.bits HK.out.bits (by have := HK.out.wf _ (nd_mem HAT.out); rw [← HU.out] at this; exact this.1) (HFULL.out i hi)
  clear hF4 hf'
  go_wp2_with (fail)
  go_loopw [7] (fun v7 wr => ∃ k kr2 : Nat, k ≤ 4 ∧ v7 = .int .i64 k ∧ RD w0 wr B V (xr.acc 1 (wyA x) v) ∧ RWayAt wr w0.heap.size b kr2 { x with l := wfirsts x.most (otW x.bits v) u x.at_ x.l k } ∧ wr.heap[nb]? = some (.cells #[.int .i64 u, .int .i64 nf, .int .i64 ns] 192 (0, 0)) ∧ Fz b kr w wr ∧ (kr2 = kr ∨ w.heap.size < kr2)) (fun v7 _ => 4 - (intOf v7).toNat)
  case atStart => exact ⟨0, kr, by omega, rfl, H4.out, X4.out, N4.out, FZ.out, .inl rfl⟩
  case round =>
    clear H4 X4 N4 FZ F4 K1 K3 H2 H
    obtain ⟨k, kr2, hk4, rfl, h5, x5, n5, f5, hkr⟩ := hrel
    obtain ⟨lk, hlk⟩ : ∃ lk, lk = wfirsts x.most (otW x.bits v) u x.at_ x.l k := ⟨_, rfl⟩
    rw [← hlk] at x5
    have hll := wfirsts_len x.most (otW x.bits v) u x.at_ x.l k
    rw [← hlk] at hll
    have hl4 := HK.out.len
    have HLK := Lib.hid hlk; have H5 := Lib.hid h5; have X5 := Lib.hid x5; have N5 := Lib.hid n5; have F5 := Lib.hid f5; have HKR := Lib.hid hkr; have HLL := Lib.hid (show lk.length ≤ 4200 by omega)
    clear hlk h5 x5 n5 f5 hkr hll hl4
    by_cases hlt : k < 4
    · have hlt' : (k : Int) < 4 := by omega
      have HLT := Lib.hid hlt
      have htg : tagOf v k = tg v k := by unfold tagOf; rw [if_pos (by omega), Int.toNat_natCast]
      have hTG := fun W => rtag_any v k W HVB.out.1 HVB.out.2
      rw [htg] at hTG
      have hOT := fun W => rother01_any u (tg v k) x.bits W
      have hoe : oth01 u (tg v k) x.bits = otW x.bits v u k := by
        have hu := HK.out.wf _ (nd_mem HAT.out)
        rw [← HU.out] at hu
        have ht := HFULL.out k hlt
        unfold oth01 otW oth
        rw [if_neg (by omega), mask_modW _ _ (by omega) (by omega) HK.out.bits]
      rw [hoe] at hOT
      have hs5 : RTs b nb x.bits u wr.drew := by
        obtain ⟨va, vc, hz, -⟩ := X5.out.ex
        exact ⟨hcell hz 3, hcell N5.out 0⟩
      clear htg hoe hlt hk4
      go_upto_region 13 with (fail)
      go_region_held2 (fun W => RTs b nb x.bits u W) (assumption) (first
        | (go_at_call 92; refine (hTG _).mono ?_; intro e w6 hh; obtain ⟨hh1, hh2⟩ := hh; subst hh1; obtain rfl := hh2; clear hTG)
        | (go_at_call 91; refine (hOT _).mono ?_; intro e w7 hh; obtain ⟨hh1, hh2⟩ := hh; subst hh1; obtain rfl := hh2.symm; clear hOT))
      have bd : Below wr.heap.size wr wr.drew := (Below.refl _ _).drew
      have H5d := Lib.hid (H5.out.keep bd); have X5d := Lib.hid (X5.out.below bd); have N5d : Hid (wr.drew.heap[nb]? = _) := N5.out; have F5d := Lib.hid (F5.out.trans (kz_below bd b kr) (.inl rfl))
      clear H5 X5 N5 F5 bd hs5
      go_wp2_with (fail)
      generalize wr.drew = w6 at *
      obtain ⟨va, vc, hz5, ho5, hw5, hk5⟩ := X5d.out.ex
      obtain ⟨av, cv, hva, -⟩ := own_sl3 ho5
      obtain ⟨c0, c1, c2, c3, c4, c5⟩ := rwy_cells hz5
      rw [hva] at c1
      simp only at c1 c4
      obtain ⟨q, hq⟩ : ∃ q, q = decide ((lk.length : Int) < x.most) := ⟨_, rfl⟩
      have hqd : decide ((lk.length : Int) < x.most) = q := hq.symm
      obtain ⟨o, ho⟩ : ∃ o, o = otW x.bits v u k := ⟨_, rfl⟩
      have hri : ∀ st : ExtW w6, Calls Tryz.prog 93 #[.pointer (some ⟨b, 0, none⟩), .int .i64 o] st.val fun e w' => e = .returned (.bool (decide (o ∈ bks lk))) ∧ Below st.val.heap.size st.val w' := fun st => (ris (X5d.out.below st.below) o (by have := HLL.out; simp only; omega)).mono fun e w' hh => ⟨hh.1, hh.2 ▸ Below.refl _ _⟩
      obtain ⟨r, hr⟩ : ∃ r, r = decide (o ∈ bks lk) := ⟨_, rfl⟩
      rw [← hr] at hri
      have y1 := fun st : ExtW w6 => st.cell c1
      have y4 := fun st : ExtW w6 => st.cell c4
      have HQ := Lib.hid hq; have HO := Lib.hid ho; have HRR := Lib.hid hr; have HZ5 := Lib.hid hz5; have HO5 := Lib.hid ho5; have HW5 := Lib.hid hw5; have HVA := Lib.hid hva
      clear c0 c1 c2 c3 c4 c5 hz5 ho5 hw5 hk5 hva hq hr 
      rw [← ho]
      clear ho
      by_cases hqr : q = true ∧ r = false
      · obtain ⟨rfl, rfl⟩ := hqr
        · refine wp_region_ext (by kernel_rfl) (by kernel_rfl) ?_
          repeat (go_big_quiet_step (first | (go_at_call 93; with_reducible refine calls_ext (hri _))))
          refine wpQuiet_nil ?_
          rintro W ⟨⟨W2, hW⟩, rfl⟩
          have H6 := Lib.hid (H5d.out.keep hW); have X6 := Lib.hid (X5d.out.below hW); have N6 := Lib.hid ((hW.block _ (Array.getElem?_eq_some_iff.1 N5d.out).1).trans N5d.out); have F6 := Lib.hid (F5d.out.trans (kz_below hW b kr) (.inl rfl)); have BW6 := Lib.hid hW
          clear y1 y4 hri hW
          go_upto_region 15 with (fail)
          obtain ⟨vl6, vw6, hz6, ho6, hw6, hk6⟩ := X6.out.ex
          obtain ⟨av6, cv6, hvl6, -⟩ := own_sl3 ho6
          have x1 : W.cell? ⟨b, 1, none⟩ = some (.slice av6 lk.length cv6) := by have hv : vl6 = .slice av6 lk.length cv6 := hvl6; rw [← hv]; exact hcell hz6 1
          have x2 : W.cell? ⟨b, 2, none⟩ = some (.int .i64 x.at_) := hcell hz6 2
          have al : ∀ (o : Obj) {q j : Nat} {u : Value}, W.cell? ⟨q, j, none⟩ = some u → (W.alloc o).cell? ⟨q, j, none⟩ = some u := fun o q j u hu => by rw [World.cell?_alloc_past _ _ _ (World.block_lt_of_cell? _ _ hu)]; exact hu
          have x1' := fun o => al o x1
          have x2' := fun o => al o x2
          have HC1 := Lib.hid x1
          have HNW2 : Hid (((W.drew).alloc (.cells #[.int .i64 o, .int .i64 x.at_, .int .i64 k] 192)).heap[W.heap.size]? = some (.cells #[.int .i64 o, .int .i64 x.at_, .int .i64 k] 192 (0, 0))) := heap_alloc_new (W.drew) _
          have HO6 : Hid (W.ownsRow w0.heap.size 192 3 (.slice av6 lk.length cv6) lk.length (flatN lk)) := Lib.hid (by have hv : vl6 = .slice av6 lk.length cv6 := hvl6; rw [← hv]; exact ho6)
          have HLOW := Lib.hid H6.out.below.size
          have HZ6 := Lib.hid hz6
          have HBK : Hid (∀ k, (Value.slice av6 lk.length cv6).ownBlock = some k → k ≠ b) := Lib.hid fun k hk => by
            obtain ⟨cur, hc⟩ := own_blk HO6.out hk
            exact cells_ne hc HZ6.out (by decide)
          obtain ⟨i0, hi0, hq0, hq1, hq2⟩ := info_parts info_node
          have HI := Lib.hid hi0; have HQ0 := Lib.hid hq0; have HQ1 := Lib.hid hq1; have HQ2 := Lib.hid hq2
          clear hz6 ho6 hw6 hk6 hvl6 al hi0 hq0 hq1 hq2
          go_region_law ((refine step_append_lies _ (by rfl) _ _ _ (by rfl) w0.heap.size 192 i0 _ 3 24 Tryz.underlying53 HI.out HQ0.out HQ1.out HQ2.out rfl (by decide) (.slice av6 lk.length cv6) lk.length (flatN lk) (by rfl) ((HO6.out.drew).alloc _) ⟨W.heap.size, 0, none⟩ 1 1 [.int .i64 o, .int .i64 x.at_, .int .i64 k] (by rfl) (by rfl) (World.news_of_block (cs := #[.int .i64 o, .int .i64 x.at_, .int .i64 k]) (t := 192) (fr := (0, 0)) HNW2.out) (by simp [Value.oneCell']) (by omega) (by have := HLL.out; unfold maxLen; omega) (by have := HLL.out; omega) (by have := HLOW.out; simp; omega) (W.heap.size + 1) (by simp) ?_; intro g2 cap2 w8 hown1 hgrow hat hlt4; have HOW := Lib.hid hown1; have HGR := Lib.hid hgrow; have HAT := Lib.hid hat; have hkk := grown_keeps hgrow; have hq4 := (hkk.block b (by have := (Array.getElem?_eq_some_iff.1 HZ6.out).1; simp; omega) (fun c => (HBK.out b c) rfl)).trans (((((Below.refl W.heap.size W).drew).alloc (Nat.le_refl _) (.cells #[.int .i64 o, .int .i64 x.at_, .int .i64 k] 192)).block _ (Array.getElem?_eq_some_iff.1 HZ6.out).1).trans HZ6.out); have t0 : w8.cell? ⟨b, 1, none⟩ = some vl6 := hcell hq4 1; have t1 := hfrz hq4 1; clear hown1 hgrow hat hlt4 hq4 hkk))
          all_goals
            have hfin := radd_all (y := (o, ((x.at_ : Int), ((k : Nat) : Int)))) H6.out X6.out N6.out F6.out HC1.out rfl HKR.out NB.out HKW.out (by
              have e : encN (o, ((x.at_ : Int), ((k : Nat) : Int))) = [.int .i64 o, .int .i64 x.at_, .int .i64 k] := by unfold encN; simp only; rw [if_neg (by omega)]
              rw [e]; exact HOW.out) HGR.out HAT.out
            have HFIN := Lib.hid hfin
            clear hfin x1 x2 x1' x2' t0 t1
            go_wp2_with (fail)
            go_roundw
            case measure => have := HLT.out; simp [intOf]; omega
            case rel =>
              refine ⟨k + 1, _, HLT.out, by have := HLT.out; go_num, HFIN.out.1, ?_, HFIN.out.2.2.1, HFIN.out.2.2.2.1, HFIN.out.2.2.2.2⟩
              have hsm : wfirsts x.most (otW x.bits v) u x.at_ x.l (k + 1) = lk ++ [(o, ((x.at_ : Int), ((k : Nat) : Int)))] := by
                rw [wfirsts_succ, ← HLK.out, ← HO.out]
                unfold wadd
                rw [if_pos ⟨of_decide_eq_true HQ.out.symm, of_decide_eq_false HRR.out.symm⟩]
              rw [hsm]
              exact HFIN.out.2.1
      · have hsm : wfirsts x.most (otW x.bits v) u x.at_ x.l (k + 1) = wfirsts x.most (otW x.bits v) u x.at_ x.l k := by
          rw [wfirsts_succ, ← HLK.out, ← HO.out]
          unfold wadd
          rw [if_neg]
          rintro ⟨c1, c2⟩
          exact hqr ⟨by rw [HQ.out]; exact decide_eq_true c1, by rw [HRR.out]; exact decide_eq_false c2⟩
        have HSM := Lib.hid hsm
        clear hsm
        cases q
        · clear hqr
          refine wp_region_ext (by kernel_rfl) (by kernel_rfl) ?_
          repeat (go_big_quiet_step (first | (go_at_call 93; with_reducible refine calls_ext (hri _))))
          refine wpQuiet_nil ?_
          rintro W ⟨⟨W2, hW⟩, rfl⟩
          have H6 := Lib.hid (H5d.out.keep hW); have X6 := Lib.hid (X5d.out.below hW); have N6 := Lib.hid ((hW.block _ (Array.getElem?_eq_some_iff.1 N5d.out).1).trans N5d.out); have F6 := Lib.hid (F5d.out.trans (kz_below hW b kr) (.inl rfl)); have BW6 := Lib.hid hW
          clear y1 y4 hri hW
          go_wp2_with (fail)
          go_roundw
          case measure => have := HLT.out; simp [intOf]; omega
          case rel =>
            refine ⟨k + 1, kr2, HLT.out, by have := HLT.out; go_num, H6.out, ?_, N6.out, F6.out, HKR.out⟩
            rw [HSM.out, ← HLK.out]
            exact X6.out
        · have hr1 : r = true := by cases r; exact absurd ⟨rfl, rfl⟩ hqr; rfl
          subst hr1
          clear hqr
          refine wp_region_ext (by kernel_rfl) (by kernel_rfl) ?_
          repeat (go_big_quiet_step (first | (go_at_call 93; with_reducible refine calls_ext (hri _))))
          refine wpQuiet_nil ?_
          rintro W ⟨⟨W2, hW⟩, rfl⟩
          have H6 := Lib.hid (H5d.out.keep hW); have X6 := Lib.hid (X5d.out.below hW); have N6 := Lib.hid ((hW.block _ (Array.getElem?_eq_some_iff.1 N5d.out).1).trans N5d.out); have F6 := Lib.hid (F5d.out.trans (kz_below hW b kr) (.inl rfl)); have BW6 := Lib.hid hW
          clear y1 y4 hri hW
          go_wp2_with (fail)
          go_roundw
          case measure => have := HLT.out; simp [intOf]; omega
          case rel =>
            refine ⟨k + 1, kr2, HLT.out, by have := HLT.out; go_num, H6.out, ?_, N6.out, F6.out, HKR.out⟩
            rw [HSM.out, ← HLK.out]
            exact X6.out
    · have hk4e : k = 4 := by omega
      subst hk4e
      have hat1 : Hid (x.at_ < 5000) := by have := HAT.out; have := HK.out.len; show x.at_ < 5000; omega
      have e9 : wrap64 ((x.at_ : Int) + 1) = ((x.at_ + 1 : Nat) : Int) := by
        have := hat1.out
        rw [w64_smW (by omega)]; push_cast; rfl
      obtain ⟨a1, ha1⟩ : ∃ a1, a1 = x.at_ + 1 := ⟨_, rfl⟩
      rw [← ha1] at e9
      have HA1 := Lib.hid ha1
      obtain ⟨va, vc, hz5, ho5, hw5, hk5⟩ := X5.out.ex
      obtain ⟨av, cv, hva, -⟩ := own_sl3 ho5
      have c2 : wr.cell? ⟨b, 2, none⟩ = some (.int .i64 x.at_) := hcell hz5 2
      have f2 := hfrz hz5 2
      have X6 := rway_cellset (y := { x with l := lk, at_ := a1 }) X5.out 2 (.int .i64 a1) ⟨rfl, rfl, rfl⟩ (fun _ _ => rfl)
      have H6 := rd_set16 (o := 2) H5.out hz5 (by decide) X5.out.low (.int .i64 a1)
      have F6 := F5.out.trans (kz_set (o := 2) (u := .int .i64 a1) hz5 kr) (.inl rfl)
      have z6 := setCell_same hz5 2 (.int .i64 a1)
      have HX6 := Lib.hid X6; have HH6 := Lib.hid H6; have HF6 := Lib.hid F6; have HZ6 := Lib.hid z6; have HVA := Lib.hid hva
      clear X6 H6 F6 z6 ha1 hz5 ho5 hw5 hk5 hva hlt hk4
      go_upto_region 17 with (fail)
      generalize wr.setCell ⟨b, 2, none⟩ (.int .i64 a1) = w7 at *
      clear c2 f2 e9
      have c1 : w7.cell? ⟨b, 1, none⟩ = some (.slice av lk.length cv) := by
        have hv : va = .slice av lk.length cv := HVA.out
        rw [← hv]; exact hcell HZ6.out 1
      have c2 : w7.cell? ⟨b, 2, none⟩ = some (.int .i64 a1) := hcell HZ6.out 2
      have y1 := fun st : ExtW w7 => st.cell c1
      have y2 := fun st : ExtW w7 => st.cell c2
      obtain ⟨q, hq⟩ : ∃ q, q = ((a1 : Int) == (lk.length : Int)) := ⟨_, rfl⟩
      have hq' : ((a1 : Int) == (lk.length : Int)) = q := hq.symm
      have hq2 : decide (x.at_ + 1 = lk.length) = q := by
        rw [hq, HA1.out]
        by_cases e : x.at_ + 1 = lk.length
        · rw [decide_eq_true e, e]; simp
        · rw [decide_eq_false e]; symm; rw [beq_eq_false_iff_ne]; omega
      have hnx : x.next v = { x with l := lk, at_ := a1, over := q } := by
        unfold WY.next
        rw [if_pos (by rw [← HFV.out]; exact HF.out), ← HU.out, ← wfirsts_four, ← HLK.out, hq2, ← HA1.out]
      have HNX := Lib.hid hnx
      clear hq hq2 hnx c1 c2
      cases q
      · refine wp_region_ext (by kernel_rfl) (by kernel_rfl) ?_
        repeat (go_big_quiet_step (fail))
        refine wpQuiet_nil ?_
        rintro W ⟨⟨W2, hW⟩, rfl⟩
        have h8 := HH6.out.keep hW; have x8 := HX6.out.below hW; have f8 := HF6.out.trans (kz_below hW b kr) (.inl rfl)
        have P := Lib.hid (And.intro h8 (And.intro x8 f8))
        clear y1 y2 h8 x8 f8 hW
        go_wp2_with (fail)
        go_end0
        refine ⟨rfl, P.out.1, kr2, ?_, HKR.out.imp id Nat.le_of_lt, P.out.2.2⟩
        rw [HNX.out]
        have := P.out.2.1
        rw [show ({ x with l := lk, at_ := a1 } : WY) = { x with l := lk, at_ := a1, over := false } from by rw [← HOV.out]] at this
        exact this
      · refine wp_region_ext (by kernel_rfl) (by kernel_rfl) ?_
        repeat (go_big_quiet_step (fail))
        refine wpQuiet_nil ?_
        rintro W ⟨⟨W2, hW⟩, rfl⟩
        have h8 := HH6.out.keep hW; have x8 := HX6.out.below hW; have f8 := HF6.out.trans (kz_below hW b kr) (.inl rfl)
        have z8 := (hW.block _ (Array.getElem?_eq_some_iff.1 HZ6.out).1).trans HZ6.out
        have c0 : W.cell? ⟨b, 0, none⟩ = some (.int .i64 (if (!x.made || x.over) = true then 0 else 1)) := hcell z8 0
        have f0 := hfrz z8 0
        have x9 := rway_cellset (y := { x with l := lk, at_ := a1, over := true }) x8 0 (.int .i64 0) ⟨rfl, rfl, rfl⟩ (fun vl vw => by
          unfold WY.rcells
          simp only
          rw [if_pos (show (!x.made || true) = true from by simp)]; rfl)
        have h9 := rd_set16 (o := 0) h8 z8 (by decide) x8.low (.int .i64 0)
        have f9 := f8.trans (kz_set (o := 0) (u := .int .i64 0) z8 kr) (.inl rfl)
        have P := Lib.hid (And.intro h9 (And.intro x9 f9))
        clear y1 y2 h8 x8 f8 hW z8 x9 h9 f9
        go_wp2_with (fail)
        go_end0
        refine ⟨rfl, P.out.1, kr2, ?_, HKR.out.imp id Nat.le_of_lt, P.out.2.2⟩
        rw [HNX.out]
        exact P.out.2.1
end Go.Proofs.YtomllmlieeaaiaaGreat

/-
  Layer 16: a step of the document's Way that finds a free slot.
-/
namespace Go.Proofs.YtomllmlieeaaiaaGreat
open Go.RowKit Go.Maps TagPure
set_option linter.unusedVariables false

section
variable {P : Program} {ops : Array Oper} {D : World → Prop}
theorem tailM_callW {Q : Exit → Act → World → Prop} {i : Nat} {r t2 : List Nat} {o : Oper} {a : Act} {w : World} (hi : ops[i]? = some o) (hg : o.guard = none) (f : FuncId) (args : Array Value) (hrun : (execOp a.eval o).run P w = .ok (.enter f args) w)
    (h : Calls P f args w fun e w' => ∃ v, e = .returned v ∧ D w' ∧ tailM P ops D Q t2 r (a.put o.dst v) w') : tailM P ops D Q t2 (i :: r) a w := by
  refine tailM_op hi hg ?_
  unfold Oper.wp
  rw [hrun]
  simp only [Oper.upon]
  refine h.mono fun e w' ⟨v, he, hD, ht⟩ => ?_
  subst he
  exact ⟨hD, ht⟩
end
/-- What stands ahead of a node on its way. -/
def wtl (l : List Nd) (n i : Nat) : List (Int × Int) := if (nd l i).2.1 = -1 then [] else wpath l n (nd l i).2.1.toNat (nd l i).2.2
def RWhole (l : List Nd) (P : List (Int × Int)) (i : Nat) (acc : List (Int × Int)) : Prop := i < l.length ∧ ∃ n, i ≤ n ∧ P = (wtl l n i).reverse ++ acc
theorem rw_start {l : List Nd} {k : Nat} (hk : k < l.length) (s : Int) : RWhole l (wway l k s) k [((nd l k).1, s)] := by
  obtain ⟨n, hn⟩ : ∃ n, l.length = n + 1 := ⟨l.length - 1, by omega⟩
  refine ⟨hk, n, by omega, ?_⟩
  unfold wway
  rw [hn]
  show (((nd l k).1, s) :: wtl l n k).reverse = _
  simp
theorem rw_step {l : List Nd} {P acc : List (Int × Int)} {i : Nat} (ha : Ahead l) (h : RWhole l P i acc) (hf : (nd l i).2.1 ≠ -1) : ∃ f : Nat, (nd l i).2.1 = f ∧ f < i ∧ f < l.length ∧ RWhole l P f (((nd l f).1, (nd l i).2.2) :: acc) := by
  obtain ⟨hi, n, hn, hP⟩ := h
  rcases ha i hi with e | ⟨e1, e2⟩
  · exact absurd e hf
  · obtain ⟨f, hfe⟩ := Int.eq_ofNat_of_zero_le e1
    obtain ⟨n', rfl⟩ : ∃ n', n = n' + 1 := ⟨n - 1, by omega⟩
    refine ⟨f, hfe, by omega, by omega, by omega, n', by omega, ?_⟩
    rw [hP]
    have : wtl l (n' + 1) i = ((nd l f).1, (nd l i).2.2) :: wtl l n' f := by
      conv => lhs; unfold wtl
      rw [if_neg hf, hfe, Int.toNat_natCast]
      rfl
    rw [this]
    simp
theorem rw_end {l : List Nd} {P acc : List (Int × Int)} {i : Nat} (h : RWhole l P i acc) (hf : (nd l i).2.1 = -1) : acc = P := by
  obtain ⟨hi, n, hn, hP⟩ := h
  rw [hP]
  unfold wtl
  rw [if_pos hf]; rfl
theorem rw_len {l : List Nd} {P acc : List (Int × Int)} {i : Nat} (h : RWhole l P i acc) : acc.length ≤ P.length := by
  obtain ⟨hi, n, hn, hP⟩ := h
  rw [hP, List.length_append]; omega
def fmsrN (v : Value) (w : World) : Nat := match v with
  | .pointer (some a) => match w.cell? ⟨a.block, 1, none⟩ with
    | some (.int .i64 i) => (i + 1).toNat
    | _ => 0
  | _ => 0
def ndC (l : List Nd) (i : Nat) : Array Value := #[.int .i64 (nd l i).1, .int .i64 (nd l i).2.1, .int .i64 (if (nd l i).2.1 = -1 then 0 else (nd l i).2.2)]
/-- While the way is laid. -/
structure RFS (w0 w W : World) (R : WB) (V : WV) (xr : RS) (b kr nb : Nat) (x : WY) (acc : List (Int × Int)) (nc : Array Value) : Prop where
  rd : RD w0 W R V xr
  way : RWayAt W w0.heap.size b kr { x with way := acc }
  nb : W.heap[nb]? = some (.cells nc 192 (0, 0))
  fz : Fz b kr w W
section
variable {w0 w W W' : World} {R : WB} {V : WV} {xr : RS} {b kr nb : Nat} {x : WY} {acc : List (Int × Int)} {nc : Array Value}
theorem RFS.below (h : RFS w0 w W R V xr b kr nb x acc nc) (hb : Below W.heap.size W W') : RFS w0 w W' R V xr b kr nb x acc nc :=
  ⟨h.rd.keep hb, h.way.below hb, (hb.block _ (Array.getElem?_eq_some_iff.1 h.nb).1).trans h.nb, h.fz.trans (kz_below hb b kr) (.inl rfl)⟩
theorem RFS.ne (h : RFS w0 w W R V xr b kr nb x acc nc) : b ≠ nb := fun e => by
  obtain ⟨_, vl, vw, h1, -⟩ := h.way
  have := h.nb.symm.trans (e ▸ h1)
  simp only [Option.some.injEq, Obj.cells.injEq] at this
  exact absurd this.2.1 (by decide)
theorem RFS.setway (h : RFS w0 w W R V xr b kr nb x acc nc) {vw' : Value} {acc' : List (Int × Int)} (ho : W.ownsRow w0.heap.size 71 3 vw' acc'.length (flatS x.bits acc')) : RFS w0 w (W.setCell ⟨b, 5, none⟩ vw') R V xr b kr nb x acc' nc := by
  have hne := h.ne
  obtain ⟨hrd, ⟨h0, vl, vw, h1, h2, h3, h4⟩, hnb, hfz⟩ := h
  have sk := setCell_keeps W b 5 vw'
  have g := setCell_same h1 5 vw'
  refine ⟨rd_set16 hrd h1 (by decide) h0 _, ⟨h0, vl, vw', g, own_keepsS h2 sk fun k hk c => ?_, own_keepsS ho sk fun k hk c => ?_, h4⟩, (sk.block nb (Array.getElem?_eq_some_iff.1 hnb).1 (fun c => hne c.symm)).trans hnb, hfz.trans (kz_set h1 kr) (.inl rfl)⟩
  · obtain ⟨cur, hc2⟩ := own_blk h2 hk
    exact cells_ne hc2 h1 (by decide) c
  · obtain ⟨cur, hc2⟩ := own_blk ho hk
    exact cells_ne hc2 h1 (by decide) c
theorem fz_new {c nb o : Nat} {u : Value} (h : Fz b c w W) (hn : w.heap.size ≤ nb) : Fz b c w (W.setCell ⟨nb, o, none⟩ u) := by
  have sk := setCell_keeps W nb o u
  refine ⟨Nat.le_trans h.size sk.size, fun k cs T fr h1 h2 h3 h4 => ?_, fun k es cl h1 => ?_⟩
  · have := (Array.getElem?_eq_some_iff.1 h1).1
    have g := h.cells k cs T fr h1 h2 h3 h4
    exact (sk.block k (Array.getElem?_eq_some_iff.1 g).1 (by omega)).trans g
  · have := (Array.getElem?_eq_some_iff.1 h1).1
    have g := h.map k es cl h1
    exact (sk.block k (Array.getElem?_eq_some_iff.1 g).1 (by omega)).trans g
theorem RFS.setn (h : RFS w0 w W R V xr b kr nb x acc nc) (o : Nat) (u : Value) (hn : w.heap.size ≤ nb) (hkr : kr < w.heap.size) (hw : w0.heap.size ≤ w.heap.size) : RFS w0 w (W.setCell ⟨nb, o, none⟩ u) R V xr b kr nb x acc (nc.setIfInBounds o u) := by
  have hne := h.ne
  obtain ⟨hrd, ⟨h0, vl, vw, h1, h2, h3, h4⟩, hnb, hfz⟩ := h
  have sk := setCell_keeps W nb o u
  have g := setCell_same hnb o u
  refine ⟨rd_set16 hrd hnb (by decide) (by omega) _, ⟨h0, vl, vw, (sk.block b (Array.getElem?_eq_some_iff.1 h1).1 hne).trans h1, own_keepsS h2 sk fun k hk c => ?_, own_keepsS h3 sk fun k hk c => ?_, h4⟩, g, fz_new hfz hn⟩
  · obtain ⟨a, cap, rfl, -⟩ := own_sl3 h2
    have e := kb_of h4 hk
    have c : k = nb := c
    omega
  · obtain ⟨cur, hc2⟩ := own_blk h3 hk
    exact cells_ne hc2 hnb (by decide) c
end
set_option maxRecDepth 10000 in
set_option maxHeartbeats 4000000 in
theorem rstep_free {w0 w : World} {B : WB} {V : WV} {xr : RS} {b kr : Nat} {x : WY} (h : RD w0 w B V xr) (hr : xr.room) (hx : RWayAt w w0.heap.size b kr x) (hk : WyOk x) (hov : x.over = false) (v : Int) (hv : v = rlook xr.l (wyA x)) (hvb : 0 ≤ v ∧ v < 18446744073709551616) (hfe : 0 ≤ frW v) :
    Calls Tryz.prog 19 #[.pointer (some ⟨b, 0, none⟩), .pointer (some ⟨B.wb, 0, none⟩)] w fun e w' => e = .returned (.tuple #[]) ∧ ∃ kr', RD w0 w' B V (xr.acc 1 (wyA x) v) ∧ RWayAt w' w0.heap.size b kr' (x.next v) ∧ (kr' = kr ∨ w.heap.size ≤ kr') ∧ Fz b kr w w' := by
  have hat := hk.at_ hov
  obtain ⟨u, hu⟩ : ∃ u, u = (nd x.l x.at_).1 := ⟨_, rfl⟩
  obtain ⟨h0, vl, vw, h1, h2, h3, h4⟩ := id hx
  obtain ⟨g, cap, hvl, z0, z1, z2⟩ := row3_all h2 x.at_ hat
  obtain ⟨c0, c1, c2, c3, c4, c5⟩ := rwy_cells h1
  rw [hk.made, hov] at c0
  have c0 : w.cell? ⟨b, 0, none⟩ = some (.int .i64 1) := c0
  rw [hvl] at c1
  rw [← hu] at z0
  obtain ⟨nf, hnf⟩ : ∃ nf, nf = (nd x.l x.at_).2.1 := ⟨_, rfl⟩
  obtain ⟨ns, hns⟩ : ∃ ns : Int, ns = (if (nd x.l x.at_).2.1 = -1 then 0 else (nd x.l x.at_).2.2) := ⟨_, rfl⟩
  rw [← hnf] at z1
  rw [← hns] at z2
  have i0 : (0 : Int) ≤ x.at_ := by omega
  have i1 : (x.at_ : Int) < x.l.length := by omega
  have H := Lib.hid h; have HR := Lib.hid hr; have HX := Lib.hid hx; have HK := Lib.hid hk; have HV := Lib.hid hv; have HVB := Lib.hid hvb; have HU := Lib.hid hu; have HNF := Lib.hid hnf; have HNS := Lib.hid hns; have HAT := Lib.hid hat; have HOV := Lib.hid hov; have HVL := Lib.hid hvl
  have HFE0 := Lib.hid hfe; have HKW : Hid (kr < w.heap.size) := (by { rcases h4 with e | ⟨-, e⟩; obtain ⟨cur, hc⟩ := own_blk h2 e; exact (Array.getElem?_eq_some_iff.1 hc).1; rw [e]; exact (Array.getElem?_eq_some_iff.1 h1).1 }); have HC0 := Lib.hid c0; have HC1 := Lib.hid c1; have HC2 := Lib.hid c2; have HZ0 := Lib.hid z0; have HZ1 := Lib.hid z1; have HZ2 := Lib.hid z2
  clear hfe h hr hx hk hv hvb hu hnf hns hat hov hvl h0 h1 h2 h3 h4 c1 c2 c3 c4 c5 z0 z1 z2
  go_enter Tryz.func19, Tryz.ntmps19
  go_upto_region 1 with (fail)
  clear c0
  have al : ∀ (o : Obj) {q j : Nat} {u : Value}, w.cell? ⟨q, j, none⟩ = some u → (w.alloc o).cell? ⟨q, j, none⟩ = some u := fun o q j u hu => by rw [World.cell?_alloc_past _ _ _ (World.block_lt_of_cell? _ _ hu)]; exact hu
  have d1 : w.cell? ⟨b, 1, none⟩ = _ := HC1.out
  have d2 : w.cell? ⟨b, 2, none⟩ = _ := HC2.out
  have e0 : w.cell? ⟨g, x.at_ * 3, none⟩ = _ := HZ0.out
  have e1 : w.cell? ⟨g, x.at_ * 3 + 1, none⟩ = _ := HZ1.out
  have e2 : w.cell? ⟨g, x.at_ * 3 + 2, none⟩ = _ := HZ2.out
  have d1' := fun o => al o d1
  have d2' := fun o => al o d2
  have e0' := fun o => al o e0
  have e1' := fun o => al o e1
  have e2' := fun o => al o e2
  clear al
  go_region
  go_wp2_with (fail)
  have n1 := heap_alloc_new w (.cells #[.int .i64 u, .int .i64 nf, .int .i64 ns] 192)
  have k1 := (below_alloc w (.cells #[.int .i64 u, .int .i64 nf, .int .i64 ns] 192)).drew
  have n2 : (w.alloc (.cells #[.int .i64 u, .int .i64 nf, .int .i64 ns] 192)).drew.heap[w.heap.size]? = some (.cells #[.int .i64 u, .int .i64 nf, .int .i64 ns] 192 (0, 0)) := n1
  have H2 := Lib.hid (H.out.keep k1); have X2 := Lib.hid (HX.out.below k1); have K1 := Lib.hid k1; have N2 := Lib.hid n2
  clear d1 d2 e0 e1 e2 d1' d2' e0' e1' e2' i0 i1 n1 k1 n2
  generalize (w.alloc (.cells #[.int .i64 u, .int .i64 nf, .int .i64 ns] 192)).drew = w2 at *
  obtain ⟨nb, hnb⟩ : ∃ nb, nb = w.heap.size := ⟨_, rfl⟩
  rw [← hnb] at N2
  have NB := Lib.hid hnb
  try simp only [← hnb]
  clear hnb
  have hs2 : RTs b nb x.bits u w2.drew := by
    obtain ⟨va, vc, hz, -⟩ := X2.out.ex
    exact ⟨hcell hz 3, hcell N2.out 0⟩
  have hA : wyA x = tagsA x.bits u := by unfold wyA; rw [HU.out]
  have htg := fun W => rtags_any x.bits u W
  rw [← hA] at htg
  have hld := Lib.hid (fun W (hW : Below w2.heap.size w2 W) => rwload (H2.out.keep hW) HR.out (wyA x) (tagsA_wf _ _))
  clear hA
  go_region_held2 (fun W => RTs b nb x.bits u W) (assumption) (first
    | (go_at_call 88; refine (htg _).mono ?_; intro e w3 hh; obtain ⟨hh1, b3⟩ := hh; subst hh1; have b3' := (Below.refl w2.heap.size w2).drew.trans b3; have X3 := Lib.hid (X2.out.below b3'); have N3 := Lib.hid ((b3'.block _ (Array.getElem?_eq_some_iff.1 N2.out).1).trans N2.out); have K3 := Lib.hid (K1.out.trans (b3'.mono K1.out.size)); have s3 : RTs b nb x.bits u w3 := (by { obtain ⟨va, vc, hz, -⟩ := X3.out.ex; exact ⟨hcell hz 3, hcell N3.out 0⟩ }); have hld3 := hld.out w3 b3'; rw [← HV.out] at hld3; clear b3 b3' hs2 htg X2 N2)
    | (go_at_call 87; refine hld3.mono ?_; intro e w4 hh; obtain ⟨hh1, h4, f4⟩ := hh; subst hh1; have H4 := Lib.hid h4; have X4 := Lib.hid (X3.out.fr f4 r_not_ry); have N4 := Lib.hid (f4.cells _ _ _ _ N3.out rfl); have F4 := Lib.hid f4; have s4 : RTs b nb x.bits u w4 := (by { obtain ⟨va, vc, hz, -⟩ := X4.out.ex; exact ⟨hcell hz 3, hcell N4.out 0⟩ }); clear h4 f4 hld3 s3 X3 N3))
  have hfree := fun W => rfree_anyF v W HVB.out.1 HVB.out.2
  obtain ⟨fv, hfv⟩ : ∃ fv, fv = frW v := ⟨_, rfl⟩
  have hfw : fv = freeFrom v 0 4 := hfv
  rw [← hfw] at hfree
  have HFV := Lib.hid hfv
  have hfc := free_casesW v
  rw [← hfw] at hfc
  clear hfv hfw s4 hld
  have hf0 : 0 ≤ fv := by rw [HFV.out]; exact HFE0.out
  have hfb4 : fv ≤ 3 := by rcases hfc with h | ⟨q, h1, h2, _⟩ <;> omega
  have hspot := rspot X4.out u fv
  have PW : Hid (∃ P : List (Int × Int), P = wway x.l x.at_ fv ∧ RWhole x.l P x.at_ [(u, fv)] ∧ P.length ≤ 4200) := Lib.hid ⟨_, rfl, by rw [HU.out]; exact rw_start HAT.out fv, by
    unfold wway; rw [List.length_reverse]
    have := wpath_len x.l x.l.length x.at_ fv
    have := HK.out.len
    omega⟩
  have HS4 := Lib.hid (RFS.mk H4.out (show RWayAt w4 w0.heap.size b kr { x with way := x.way } from X4.out) N4.out ((kz_below K3.out b kr).trans (kz_fr F4.out b kr) (.inl rfl)))
  have HWW : Hid (w0.heap.size ≤ w.heap.size) := Lib.hid H.out.below.size
  clear hfc X4 N4 H4 F4 K3 K1 H2
  go_wp2_with (first
    | (go_at_call 89; refine (hfree _).mono ?_; intro e w5 hh; obtain ⟨hh1, hh2⟩ := hh; subst hh1; obtain rfl := hh2; clear hfree)
    | (go_at_call 90; refine hspot.mono ?_; intro e w6 hh; obtain ⟨hh1, hb6⟩ := hh; subst hh1; have HS6 := Lib.hid (HS4.out.below (hb6.trans ((below_alloc w6 (.cells #[.int .i64 x.bits, .int .i64 u, .int .i64 fv] 71)).mono hb6.size))); have HA6 := heap_alloc_new w6 (.cells #[.int .i64 x.bits, .int .i64 u, .int .i64 fv] 71); have hq6 := HS6.out.way; obtain ⟨-, vl6, vw6, hz6, -⟩ := hq6; have t5 := hcell hz6 5; have tf := hfrz hz6 5; have HNA := Lib.hid HA6; have HSZ6 := Lib.hid (Nat.le_trans HWW.out (Nat.le_trans HS4.out.fz.size hb6.size)); clear hb6 hspot HA6 hz6 HS4))
  have HO6 : Hid ((w6.alloc (.cells #[.int .i64 x.bits, .int .i64 u, .int .i64 fv] 71)).ownsRow w0.heap.size 71 3 (.slice (some ⟨w6.heap.size, 0, none⟩) 1 1) [(u, fv)].length (flatS x.bits [(u, fv)])) := Lib.hid ⟨rfl, .inr ⟨w6.heap.size, 1, _, rfl, HSZ6.out, HNA.out, Nat.le_refl _, by unfold maxLen; omega, rfl, rfl⟩⟩
  have HS7 := Lib.hid (HS6.out.setway HO6.out)
  obtain ⟨P, hP, hRW, hPl⟩ := PW.out
  have hnd : ndC x.l x.at_ = #[.int .i64 u, .int .i64 nf, .int .i64 ns] := by unfold ndC; rw [HU.out, HNF.out, HNS.out]
  have hs8 := HS7.out
  rw [← hnd] at hs8
  have HS8 := Lib.hid hs8; have HPE := Lib.hid hP; have HRW := Lib.hid hRW; have HPL := Lib.hid hPl
  have HOFF : Hid (frW v ≠ -1) := Lib.hid (by have := HFE0.out; omega)
  have hnbw : Hid (w.heap.size ≤ nb) := Lib.hid (Nat.le_of_eq NB.out.symm)
  clear hP hRW hPl hnd hs8 HS7 HS6 HO6 HNA t5 tf PW hf0 hfb4 HSZ6
  generalize (w6.alloc (.cells #[.int .i64 x.bits, .int .i64 u, .int .i64 fv] 71)).setCell ⟨b, 5, none⟩ (.slice (some ⟨w6.heap.size, 0, none⟩) 1 1) = w7 at *
  obtain ⟨i0, hi0, hz0, hz1, hz2⟩ := info_parts info_spot3
  have HI := Lib.hid hi0; have HZ0 := Lib.hid hz0; have HZ1 := Lib.hid hz1; have HZ2 := Lib.hid hz2
  clear hi0 hz0 hz1 hz2
  go_loopw [49] (fun v49 wr => ∃ (i : Nat) (acc : List (Int × Int)), RFS w0 w wr B V (xr.acc 1 (wyA x) v) b kr nb x acc (ndC x.l i) ∧ RWhole x.l P i acc ∧ 0 < acc.length) (fun v49 wr => fmsrN (.pointer (some ⟨nb, 0, none⟩)) wr)
  case atStart => exact ⟨x.at_, [(u, fv)], HS8.out, HRW.out, by simp⟩
  case round =>
    clear HS8 HRW
    obtain ⟨i, acc, hs, hw, hap⟩ := hrel
    obtain ⟨fr, hfr⟩ : ∃ fr, fr = (nd x.l i).2.1 := ⟨_, rfl⟩
    have n1 : wr.cell? ⟨nb, 1, none⟩ = some (.int .i64 fr) := by rw [hcell hs.nb, hfr]; rfl
    by_cases hm : fr = -1
    · subst hm
      have hacc := rw_end hw hfr.symm
      have c0 : wr.cell? ⟨b, 0, none⟩ = some (.int .i64 (if (!x.made || x.over) = true then 0 else 1)) := by obtain ⟨_, vl, vw, h1, -⟩ := hs.way; exact hcell h1 0
      have f0 : wr.frozen? ⟨b, 0, none⟩ = false := by obtain ⟨_, vl, vw, h1, -⟩ := hs.way; exact hfrz h1 0
      have x9 := rway_cellset (y := { x with way := acc, over := true }) hs.way 0 (.int .i64 0) ⟨rfl, rfl, rfl⟩ (fun vl vw => by
        unfold WY.rcells
        simp only
        rw [if_pos (show (!x.made || true) = true from by simp)]; rfl)
      have h9 : RD w0 (wr.setCell ⟨b, 0, none⟩ (.int .i64 0)) B V (xr.acc 1 (wyA x) v) := by obtain ⟨l0, vl, vw, h1, -⟩ := hs.way; exact rd_set16 hs.rd h1 (by decide) l0 _
      have z9 : Fz b kr w (wr.setCell ⟨b, 0, none⟩ (.int .i64 0)) := by obtain ⟨l0, vl, vw, h1, -⟩ := hs.way; exact hs.fz.trans (kz_set h1 kr) (.inl rfl)
      have PP := Lib.hid (And.intro h9 (And.intro x9 z9))
      have HAC := Lib.hid hacc
      clear hs hw hfr hacc x9 h9 z9
      go_wp2_with (fail)
      refine bodyPost_ret (v := .tuple #[]) (by simp [results, Tryz.results19, go_sem]) rfl ⟨rfl, kr, PP.out.1, ?_, .inl rfl, PP.out.2.2⟩
      have e : x.next v = { x with way := acc, over := true } := by
        unfold WY.next
        rw [if_neg HOFF.out, HAC.out, HPE.out, HFV.out]
      rw [e]
      exact PP.out.2.1
    · obtain ⟨f, hff, hfi, hfl, hw2⟩ := rw_step HK.out.ahead hw (by rw [← hfr]; exact hm)
      obtain ⟨sl, hsl⟩ : ∃ sl, sl = (nd x.l i).2.2 := ⟨_, rfl⟩
      have n2 : wr.cell? ⟨nb, 2, none⟩ = some (.int .i64 sl) := by
        rw [hcell hs.nb, hsl]
        show some (Value.int .i64 (if (nd x.l i).2.1 = -1 then 0 else (nd x.l i).2.2)) = _
        rw [if_neg (by rw [← hfr]; exact hm)]
      obtain rfl : fr = (f : Int) := hfr.trans hff
      obtain ⟨bu, hbu⟩ : ∃ bu, bu = (nd x.l f).1 := ⟨_, rfl⟩
      rw [← hbu, ← hsl] at hw2
      obtain ⟨h0, vl7, vw7, h1, h2, h3, h4⟩ := hs.way
      obtain ⟨g7, cap7, hvl7, z0, z1, z2⟩ := row3_all h2 f hfl
      have hrow : ∃ gw cw, vw7 = .slice (some ⟨gw, 0, none⟩) acc.length cw ∧ gw < wr.heap.size ∧ ∀ j u, (flatS x.bits acc)[j]? = some u → wr.cell? ⟨gw, j, none⟩ = some u := by
        obtain ⟨-, ⟨-, e0⟩ | ⟨gw, cw, cur, hvw, hbw, hgw, hnw, hmw, hsw, htw⟩⟩ := h3
        · simp only at e0; omega
        · refine ⟨gw, cw, hvw, (Array.getElem?_eq_some_iff.1 hgw).1, fun j u hj => ?_⟩
          have hj2 : j < (flatS x.bits acc).length := (List.getElem?_eq_some_iff.1 hj).1
          rw [flatS_len] at hj2
          simp only at htw
          rw [← htw, List.getElem?_take, if_pos hj2] at hj
          rw [hcell hgw, ← hj]; simp
      obtain ⟨gw, cw, hvw, hgw, hnews⟩ := hrow
      have c1 : wr.cell? ⟨b, 1, none⟩ = some (.slice (some ⟨g7, 0, none⟩) x.l.length cap7) := by rw [← hvl7]; exact hcell h1 1
      have c5 : wr.cell? ⟨b, 5, none⟩ = some (.slice (some ⟨gw, 0, none⟩) acc.length cw) := by rw [← hvw]; exact hcell h1 5
      have z0 : wr.cell? ⟨g7, f * 3, none⟩ = some (.int .i64 bu) := by rw [hbu]; exact z0
      have hf0 : (0 : Int) ≤ f := by omega
      have hf1 : (f : Int) < x.l.length := by omega
      have hacl := rw_len hw
      have HS := Lib.hid hs; have HW2 := Lib.hid hw2; have HACL := Lib.hid hacl; have HBU := Lib.hid hbu; have HSL := Lib.hid hsl; have HFI := Lib.hid hfi; have HFL := Lib.hid hfl; have HGW := Lib.hid hgw; have HNEWS := Lib.hid hnews; have HFF := Lib.hid hff; have HAP := Lib.hid hap
      have HWL : Hid (w0.heap.size ≤ wr.heap.size) := Lib.hid (Nat.le_trans HWW.out hs.fz.size)
      have y1 := fun st : ExtW wr => st.cell c1
      have y5 := fun st : ExtW wr => st.cell c5
      have yg := fun st : ExtW wr => st.cell z0
      have yn1 := fun st : ExtW wr => st.cell n1
      have yn2 := fun st : ExtW wr => st.cell n2
      clear hs hw hw2 hacl hbu hsl hfi hfl hvw hgw hnews hap hff hfr hm h0 h1 h2 h3 h4 z0 z1 z2 hvl7
      go_upto_region 7 with (fail)
      clear n1 n2 c1 c5
      refine wp_region_any (by kernel_rfl) ?_
      try (change wpAny _ _ _ _ _ _ _ (World.drew _))
      refine wpAny_take (i := 2) (v := .pointer (some ⟨b, 0, none⟩)) rfl (by kernel_rfl) (by kernel_rfl) (by kernel_rfl) (fun _ _ _ h => h) (Or.inl ⟨by rfl, by intro w; go_simp⟩) ?_
      refine wpAny_take (i := 3) (v := .pointer (some ⟨b, 0, none⟩)) rfl (by kernel_rfl) (by kernel_rfl) (by kernel_rfl) (fun _ _ _ h => h) (Or.inl ⟨by rfl, by intro w; go_simp⟩) ?_
      refine wpAny_take (i := 15) (v := .pointer (some ⟨b, 0, none⟩)) rfl (by kernel_rfl) (by kernel_rfl) (by kernel_rfl) (fun _ _ _ h => h) (Or.inl ⟨by rfl, by intro w; go_simp⟩) ?_
      refine wpAny_take (i := 16) (v := .pointer (some ⟨b, 0, none⟩)) rfl (by kernel_rfl) (by kernel_rfl) (by kernel_rfl) (fun _ _ _ h => h) (Or.inl ⟨by rfl, by intro w; go_simp⟩) ?_
      refine wpAny_take (i := 0) (v := .pointer (some ⟨b, 0, none⟩)) rfl (by kernel_rfl) (by kernel_rfl) (by kernel_rfl) (fun _ _ _ h => h) (Or.inl ⟨by rfl, by intro w; go_simp⟩) ?_
      (try simp only [List.getElem_toArray, List.getElem_cons_succ, List.getElem_cons_zero])
      (try go_frame)
      refine any_of_mix (D := fun W => ∃ s : ExtW wr, W = s.val) [1, 4, 5, 6, 7, 8, 9, 10, 11, 12, 17, 18] [13, 14] 19 [20, 21, 22] (by kernel_rfl) (by kernel_rfl) (by kernel_rfl) (by kernel_rfl) (by decide) (by kernel_rfl) (fun c d v a w h => by cases d <;> exact h) ⟨⟨_, (Below.refl _ _).drew⟩, rfl⟩ ?_
      simp only [pickL_cons, pickL_nil, List.drop_succ_cons, List.drop_zero, List.take_succ_cons, List.take_zero, List.cons_append, List.nil_append]
      repeat (go_big_quiet_step (fail))
      refine wpQuiet_nil ?_
      clear y1 y5 yg yn1 yn2 hf0 hf1
      have HBD := Lib.hid (show Below wr.heap.size wr wr.drew from (Below.refl _ _).drew)
      have hsp := rspot (HS.out.way.below HBD.out) bu sl
      refine tailM_callW rfl rfl 90 #[.pointer (some ⟨b, 0, none⟩), .int .i64 bu, .int .i64 sl] (by kernel_rfl) ?_
      refine hsp.mono ?_
      intro e w4 hh
      obtain ⟨hh1, hb4⟩ := hh
      subst hh1
      have HB4 := Lib.hid (HBD.out.trans hb4)
      clear hb4 hsp
      refine ⟨_, rfl, ⟨⟨_, HB4.out⟩, rfl⟩, ?_⟩
      (try simp only [List.getElem_toArray, List.getElem_cons_succ, List.getElem_cons_zero])
      (try go_frame)
      refine tailM_op rfl rfl ?_
      go_simp
      refine ⟨⟨⟨_, HB4.out.alloc HB4.out.size _⟩, rfl⟩, ?_⟩
      (try simp only [List.getElem_toArray, List.getElem_cons_succ, List.getElem_cons_zero])
      (try go_frame)
      change tailE Tryz.prog _ _ [19, 20, 21, 22] _ _
      refine tailE_op rfl rfl ?_
      have own1 : (w4.alloc (.cells #[.int .i64 x.bits, .int .i64 bu, .int .i64 sl] 71)).ownsRow w0.heap.size 71 3 (.slice (some ⟨w4.heap.size, 0, none⟩) 1 1) 1 [.int .i64 x.bits, .int .i64 bu, .int .i64 sl] := ⟨rfl, .inr ⟨w4.heap.size, 1, _, rfl, Nat.le_trans HWL.out HB4.out.size, heap_alloc_new w4 _, Nat.le_refl _, by unfold maxLen; omega, rfl, rfl⟩⟩
      have news2 : ∀ j u, (flatS x.bits acc)[j]? = some u → (w4.alloc (.cells #[.int .i64 x.bits, .int .i64 bu, .int .i64 sl] 71)).cell? ((⟨gw, 0, none⟩ : Addr).add j) = some u := fun j u hj => by
        have ea : (⟨gw, 0, none⟩ : Addr).add j = ⟨gw, 0 + j, none⟩ := by simp [Addr.add]; omega
        rw [ea, Nat.zero_add]
        exact ((HB4.out.alloc HB4.out.size _).cell (p := ⟨gw, j, none⟩) HGW.out).trans (HNEWS.out j u hj)
      have hacb : acc.length ≤ 4200 := Nat.le_trans HACL.out HPL.out
      refine wp_append_lies _ (.tmp 64) (.tmp 68) 54 rfl w0.heap.size 71 i0 _ 3 24 Tryz.underlying54 HI.out HZ0.out HZ1.out HZ2.out rfl (by decide) (.slice (some ⟨w4.heap.size, 0, none⟩) 1 1) 1 [.int .i64 x.bits, .int .i64 bu, .int .i64 sl] rfl own1 ⟨gw, 0, none⟩ acc.length cw (flatS x.bits acc) rfl (flatS_len _ _) news2 (flatS_one _ _) HAP.out (by unfold maxLen; omega) (by omega) (by have := HWL.out; have := HB4.out.size; simp; omega) _ rfl ?_
      intro g2 cap2 w5 hown hgrow hat hlt5
      have hb5 : Below wr.heap.size wr w5 := (HB4.out.alloc (o := .cells #[.int .i64 x.bits, .int .i64 bu, .int .i64 sl] 71) HB4.out.size).grown hgrow (by have := HB4.out.size; simp; omega) (fun j hj => by simp only [Value.ownBlock, Option.some.injEq] at hj; have := HB4.out.size; omega)
      have hs5 := HS.out.below hb5
      have hcm : 1 + acc.length = acc.length + 1 := Nat.add_comm _ _
      rw [hcm] at hown ⊢
      have hs6 := hs5.setway (vw' := .slice (some ⟨g2, 0, none⟩) (acc.length + 1) cap2) (acc' := (bu, sl) :: acc) (by
        rw [List.length_cons]; exact hown)
      have t5 : ∃ vw8, w5.cell? ⟨b, 5, none⟩ = some vw8 := by obtain ⟨_, vl, vw, h1, -⟩ := hs5.way; exact ⟨_, hcell h1 5⟩
      obtain ⟨vw8, t5⟩ := t5
      have tf : w5.frozen? ⟨b, 5, none⟩ = false := by obtain ⟨_, vl, vw, h1, -⟩ := hs5.way; exact hfrz h1 5
      have HS6 := Lib.hid hs6
      clear hown hgrow hat hlt5 hb5 hs5 hcm hs6 own1 news2 hacb
      (try simp only [List.getElem_toArray, List.getElem_cons_succ, List.getElem_cons_zero])
      (try go_frame)
      refine tailE_op rfl rfl ?_
      go_simp
      refine tailE_op rfl rfl ?_
      go_simp
      refine tailE_op rfl rfl ?_
      go_simp
      unfold tailE
      clear t5 tf
      generalize w5.setCell ⟨b, 5, none⟩ (.slice (some ⟨g2, 0, none⟩) (acc.length + 1) cap2) = w9 at *
      obtain ⟨_, vl8, vw8, h81, h82, -⟩ := HS6.out.way
      obtain ⟨g8, cap8, hvl8, z0, z1, z2⟩ := row3_all h82 f HFL.out
      have c1 : w9.cell? ⟨b, 1, none⟩ = some (.slice (some ⟨g8, 0, none⟩) x.l.length cap8) := by rw [← hvl8]; exact hcell h81 1
      have n1 : w9.cell? ⟨nb, 1, none⟩ = some (.int .i64 f) := by
        rw [hcell HS6.out.nb]
        show some (Value.int .i64 (nd x.l i).2.1) = _
        rw [HFF.out]
      obtain ⟨p0, hp0⟩ : ∃ p0, p0 = (nd x.l f).1 := ⟨_, rfl⟩
      obtain ⟨p1, hp1⟩ : ∃ p1, p1 = (nd x.l f).2.1 := ⟨_, rfl⟩
      obtain ⟨p2, hp2⟩ : ∃ p2 : Int, p2 = (if (nd x.l f).2.1 = -1 then 0 else (nd x.l f).2.2) := ⟨_, rfl⟩
      have hndf : ndC x.l f = #[.int .i64 p0, .int .i64 p1, .int .i64 p2] := by unfold ndC; rw [hp0, hp1, hp2]
      have z0 : w9.cell? ⟨g8, f * 3, none⟩ = some (.int .i64 p0) := by rw [hp0]; exact z0
      have z1 : w9.cell? ⟨g8, f * 3 + 1, none⟩ = some (.int .i64 p1) := by rw [hp1]; exact z1
      have z2 : w9.cell? ⟨g8, f * 3 + 2, none⟩ = some (.int .i64 p2) := by rw [hp2]; exact z2
      have hf0 : (0 : Int) ≤ f := by omega
      have hf1 : (f : Int) < x.l.length := by have := HFL.out; omega
      have y1 := fun st : ExtW w9 => st.cell c1
      have y2 := fun st : ExtW w9 => st.cell n1
      have q0 := fun st : ExtW w9 => st.cell z0
      have q1 := fun st : ExtW w9 => st.cell z1
      have q2 := fun st : ExtW w9 => st.cell z2
      have HNDF := Lib.hid hndf; have HP1 := Lib.hid hp1
      clear h81 h82 hvl8 c1 n1 hp0 hp1 hp2 hndf z0 z1 z2
      go_upto_region 8 with (fail)
      refine wp_region_ext_tail 8 (by kernel_rfl) (by kernel_rfl) ?_
      simp only [List.take_succ_cons, List.take_zero, List.drop_succ_cons, List.drop_zero]
      repeat (go_big_quiet_step (fail))
      refine wpQuiet_nil ?_
      rintro W ⟨⟨W2, hW⟩, rfl⟩
      have hs7 := HS6.out.below hW
      obtain ⟨r0, hr0⟩ : ∃ r0, r0 = (nd x.l i).1 := ⟨_, rfl⟩
      obtain ⟨r2, hr2⟩ : ∃ r2 : Int, r2 = (if (nd x.l i).2.1 = -1 then 0 else (nd x.l i).2.2) := ⟨_, rfl⟩
      have hn0 : W.cell? ⟨nb, 0, none⟩ = some (.int .i64 r0) := by rw [hr0]; exact hcell hs7.nb 0
      have hn1 : W.cell? ⟨nb, 1, none⟩ = some (.int .i64 f) := by rw [← HFF.out]; exact hcell hs7.nb 1
      have hn2 : W.cell? ⟨nb, 2, none⟩ = some (.int .i64 r2) := by rw [hr2]; exact hcell hs7.nb 2
      have hnf := hfrz hs7.nb
      have hs8 := ((hs7.setn 0 (.int .i64 p0) hnbw.out HKW.out HWW.out).setn 1 (.int .i64 p1) hnbw.out HKW.out HWW.out).setn 2 (.int .i64 p2) hnbw.out HKW.out HWW.out
      have e8 : (((ndC x.l i).setIfInBounds 0 (.int .i64 p0)).setIfInBounds 1 (.int .i64 p1)).setIfInBounds 2 (.int .i64 p2) = ndC x.l f := by rw [HNDF.out]; rfl
      rw [e8] at hs8
      have HS8 := Lib.hid hs8
      clear y1 y2 q0 q1 q2 hW hs7 hs8 e8 hr0 hr2
      go_wp2_with (fail)
      go_roundw
      case measure =>
        have e0 : wr.cell? ⟨nb, 1, none⟩ = some (.int .i64 f) := by rw [hcell HS.out.nb, ← HFF.out]; rfl
        have e1 := hcell HS8.out.nb 1
        have e2 : (ndC x.l f)[1]? = some (.int .i64 p1) := by rw [HNDF.out]; rfl
        rw [e2] at e1
        unfold fmsrN
        simp only [e0, e1]
        rcases HK.out.ahead f HFL.out with h | ⟨h, h2⟩ <;> rw [← HP1.out] at h
        · rw [h]; omega
        · rw [← HP1.out] at h2; omega
      case rel => exact ⟨f, (bu, sl) :: acc, HS8.out, HW2.out, by simp⟩
end Go.Proofs.YtomllmlieeaaiaaGreat

/-
  Layer 16: a step of the document's Way, whatever it finds.
-/
namespace Go.Proofs.YtomllmlieeaaiaaGreat
open Go.RowKit Go.Maps TagPure
set_option linter.unusedVariables false

theorem rstep_any {w0 w : World} {B : WB} {V : WV} {xr : RS} {b kr : Nat} {x : WY} (h : RD w0 w B V xr) (hr : xr.room) (hx : RWayAt w w0.heap.size b kr x) (hk : WyOk x) (hov : x.over = false) (v : Int) (hv : v = rlook xr.l (wyA x)) (hvb : 0 ≤ v ∧ v < 18446744073709551616) :
    Calls Tryz.prog 19 #[.pointer (some ⟨b, 0, none⟩), .pointer (some ⟨B.wb, 0, none⟩)] w fun e w' => e = .returned (.tuple #[]) ∧ ∃ kr', RD w0 w' B V (xr.acc 1 (wyA x) v) ∧ RWayAt w' w0.heap.size b kr' (x.next v) ∧ (kr' = kr ∨ w.heap.size ≤ kr') ∧ Fz b kr w w' := by
  have hc : frW v = -1 ∨ 0 ≤ frW v := by
    rcases free_casesW v with e | ⟨n, -, e, -⟩
    · exact .inl e
    · right; show 0 ≤ freeFrom v 0 4; omega
  rcases hc with hc | hc
  · exact rstep_full h hr hx hk hov v hv hvb hc
  · exact rstep_free h hr hx hk hov v hv hvb hc
end Go.Proofs.YtomllmlieeaaiaaGreat

/-
  A Way: a run by itself.
-/
namespace Go.Proofs.YtomllmlieeaaiaaGreat
open Go.RowKit Go.Maps TagPure
set_option linter.unusedVariables false

/-- A table of tags: where each slot leads to; the lowest free slot of a bucket. -/
def tabO (bits : Int) (tab : Int → Int) (b : Int) (s : Nat) : Int := otW bits (tab b) b s
def tabF (tab : Int → Int) (b : Int) : Int := frW (tab b)
theorem oth_bd0 (k t b : Int) (hb : 1 ≤ b ∧ b ≤ 12) (hk : 0 ≤ k ∧ k < tsize b) (ht : 0 ≤ t ∧ t ≤ 255) : 0 ≤ oth k t b ∧ oth k t b < tsize b := by
  unfold oth
  rw [mask_modW _ _ (by omega) (by omega) hb]
  have hp := tsize_pos hb
  have h1 := Int.emod_nonneg (t * 1540483477) (b := tsize b) (by omega)
  have h2 := Int.emod_lt_of_pos (t * 1540483477) (show 0 < tsize b by omega)
  rw [tsize_powW hb] at hk h1 h2 ⊢
  exact xor_ltW _ _ _ (by omega) hk ⟨h1, h2⟩
theorem tab_ok (bits : Int) (hb : 1 ≤ bits ∧ bits ≤ 12) (tab : Int → Int) : Tab (tsize bits).toNat (tabO bits tab) := by
  have hp := tsize_pos hb
  refine ⟨fun b s h0 h1 _ => ?_⟩
  have ht : 0 ≤ tg (tab b) s ∧ tg (tab b) s ≤ 255 := by unfold tg; omega
  have := oth_bd0 b (tg (tab b) s) bits hb ⟨h0, by omega⟩ ht
  unfold tabO otW
  omega
theorem wexp_congr (cap : Int) (o o' : Int → Nat → Int) (b : Int) (k : Nat) (l : List Nd) (h : ∀ s, o b s = o' b s) : wexp cap o b k l = wexp cap o' b k l := by
  unfold wexp
  simp only [List.foldl_cons, List.foldl_nil]
  rw [h 0, h 1, h 2, h 3]
theorem frW_nn (v : Int) : frW v = -1 ∨ 0 ≤ frW v := by
  rcases free_casesW v with h | ⟨n, _, h, _⟩
  · exact .inl h
  · exact .inr (by unfold frW; rw [h]; omega)
theorem wexp_len_le (cap : Int) (o : Int → Nat → Int) (b : Int) (k : Nat) (l : List Nd) : l.length ≤ (wexp cap o b k l).length := (wexp_pre cap o b k l).length_le
section
variable {x : WY} {tab : Int → Int}
theorem WY.next_no (h : frW (tab (nd x.l x.at_).1) = -1) : x.next (tab (nd x.l x.at_).1) = { x with l := wexp x.most (tabO x.bits tab) (nd x.l x.at_).1 x.at_ x.l, at_ := x.at_ + 1, over := decide (x.at_ + 1 = (wexp x.most (tabO x.bits tab) (nd x.l x.at_).1 x.at_ x.l).length) } := by
  unfold WY.next
  rw [if_pos h, wexp_congr x.most (otW x.bits (tab (nd x.l x.at_).1)) (tabO x.bits tab) _ _ _ (fun s => rfl)]
theorem WY.next_yes (h : 0 ≤ frW (tab (nd x.l x.at_).1)) : x.next (tab (nd x.l x.at_).1) = { x with way := wway x.l x.at_ (tabF tab (nd x.l x.at_).1), over := true } := by
  unfold WY.next
  rw [if_neg (by omega)]; rfl
theorem WyOk.next (h : WyOk x) (ho : x.over = false) : WyOk (x.next (tab (nd x.l x.at_).1)) := by
  have hat := h.at_ ho
  have hl := h.len
  rcases frW_nn (tab (nd x.l x.at_).1) with hf | hf
  · rw [WY.next_no hf]
    have hb := h.win.rng _ (nd_mem hat)
    have hle := wexp_len_le x.most (tabO x.bits tab) (nd x.l x.at_).1 x.at_ x.l
    refine ⟨h.bits, h.win.exp (tab_ok x.bits h.bits tab) hb, ahead_exp _ _ _ _ h.ahead hat, fun c => ?_, fun _ => h.way ho, h.wayl, h.made⟩
    have := of_decide_eq_false c
    simp only at this ⊢
    omega
  · rw [WY.next_yes hf]
    refine ⟨h.bits, h.win, h.ahead, fun c => (by cases c), fun c => (by cases c), ?_, h.made⟩
    simp only [wway, List.length_reverse]
    have := wpath_len x.l x.l.length x.at_ (tabF tab (nd x.l x.at_).1)
    omega
/-- What a run comes to. -/
def wres (x : WY) (tab : Int → Int) (m : Nat) : Nat × List Nd × List (Int × Int) × Bool :=
  if x.over = true then (0, x.l, x.way, true) else wrun x.most (tabO x.bits tab) (tabF tab) m x.at_ x.l
theorem wres_over (h : x.over = true) (m : Nat) : wres x tab m = (0, x.l, x.way, true) := if_pos h
theorem wres_zero (h : WyOk x) (ho : x.over = false) : wres x tab 0 = (0, x.l, x.way, false) := by
  unfold wres
  rw [if_neg (by rw [ho]; decide)]
  unfold wrun
  rw [decide_eq_false (by have := h.at_ ho; omega), h.way ho]
theorem wres_succ (h : WyOk x) (ho : x.over = false) (m : Nat) : wres x tab (m + 1) = ((wres (x.next (tab (nd x.l x.at_).1)) tab m).1 + 1, (wres (x.next (tab (nd x.l x.at_).1)) tab m).2) := by
  have hat := h.at_ ho
  conv => lhs; unfold wres
  rw [if_neg (by rw [ho]; decide)]
  unfold wrun
  rw [if_neg (by omega)]
  rcases frW_nn (tab (nd x.l x.at_).1) with hf | hf
  · rw [if_neg (by unfold tabF; omega), WY.next_no hf]
    have hle := wexp_len_le x.most (tabO x.bits tab) (nd x.l x.at_).1 x.at_ x.l
    unfold wres
    by_cases e : x.at_ + 1 = (wexp x.most (tabO x.bits tab) (nd x.l x.at_).1 x.at_ x.l).length
    · rw [if_pos (by simp only [decide_eq_true e])]
      have hw : wrun x.most (tabO x.bits tab) (tabF tab) m (x.at_ + 1) (wexp x.most (tabO x.bits tab) (nd x.l x.at_).1 x.at_ x.l) = (0, wexp x.most (tabO x.bits tab) (nd x.l x.at_).1 x.at_ x.l, [], true) := by
        cases m with
        | zero => unfold wrun; rw [decide_eq_true (by omega)]
        | succ m => unfold wrun; rw [if_pos (by omega)]
      rw [hw, h.way ho]
    · rw [if_neg (by simp only [decide_eq_false e]; decide)]
  · rw [if_pos (by unfold tabF; exact hf), WY.next_yes hf]
    unfold wres
    rw [if_pos rfl]
end
theorem next_mo (x : WY) (v : Int) : (x.next v).mo = x.mo ∧ (x.next v).bits = x.bits ∧ (x.next v).most = x.most ∧ (x.next v).kb = x.kb := by
  unfold WY.next; split <;> exact ⟨rfl, rfl, rfl, rfl⟩
theorem upd_selfW (f : Int → Int) (a : Int) : upd f a (f a) = f := by
  funext z; unfold upd; split
  · rename_i h; rw [h]
  · rfl
/-- The words of a table are those of the world. -/
def TabOf (bits : Int) (tab : Int → Int) (s : CS) : Prop := ∀ b, 0 ≤ b → b < tsize bits → s.val (tagsA bits b) = tab b
set_option maxRecDepth 10000 in
set_option maxHeartbeats 4000000 in
theorem wayrun {w0 w : World} {B : WB} {V : WV} {s : CS} {xb mb : Nat} {x : WY} {tab : Int → Int} (m : Nat) (hm : m ≤ 1000) (c : Nat) (hc : s.n ≤ c ∧ s.cnt ≤ c) (hcl : c + 1000 < lim) (h : WS w0 w B V s) (hx : WayAt w w0.heap.size xb x) (hmo : x.mo = some mb) (hbs : Besd w B V mb) (hk : WyOk x) (ht : TabOf x.bits tab s) :
    Calls Tryz.prog 60 #[.pointer (some ⟨B.wb, 0, none⟩), .iface 44 (.pointer (some ⟨xb, 0, none⟩)), .int .i64 m] w fun e w' => e = .returned (.int .i64 ((wres x tab m).1 : Nat)) ∧ ∃ (x' : WY) (s' : CS), WS w0 w' B V s' ∧ WayAt w' w0.heap.size xb x' ∧ Besd w' B V mb ∧ WyOk x' ∧ x'.mo = some mb ∧ x'.bits = x.bits ∧ x'.l = (wres x tab m).2.1 ∧ x'.way = (wres x tab m).2.2.1 ∧ x'.over = (wres x tab m).2.2.2 ∧ s'.val = s.val ∧ s'.cnt = s.cnt + (wres x tab m).1 ∧ s'.n = s.n + (wres x tab m).1 ∧ Fy xb x.kb w w' := by
  have H := Lib.hid h; have HX := Lib.hid hx; have HO := Lib.hid hk; have HC := Lib.hid hc; have HCL := Lib.hid hcl; have HMO := Lib.hid hmo; have HB := Lib.hid hbs; have HT := Lib.hid ht
  have F0 := Lib.hid (below_fy (Below.refl w.heap.size w) xb x.kb)
  clear h hx hk hc hcl hmo hbs ht
  obtain ⟨R, hR⟩ : ∃ R, R = wres x tab m := ⟨_, rfl⟩
  rw [← hR]
  have HR := Lib.hid hR
  clear hR
  go_enter Tryz.func60, Tryz.ntmps60
  go_wp2
  go_loopw [7] (fun i wr => ∃ (k : Nat) (s' : CS) (x' : WY), k ≤ m ∧ i = .int .i64 k ∧ WS w0 wr B V s' ∧ WayAt wr w0.heap.size xb x' ∧ Besd wr B V mb ∧ WyOk x' ∧ x'.mo = some mb ∧ x'.bits = x.bits ∧ s'.val = s.val ∧ s'.cnt = s.cnt + k ∧ s'.n = s.n + k ∧ Fy xb x.kb w wr ∧ (x'.kb = x.kb ∨ w.heap.size ≤ x'.kb) ∧ R = ((wres x' tab (m - k)).1 + k, (wres x' tab (m - k)).2)) (fun i _ => m - (intOf i).toNat)
  case atStart => exact ⟨0, s, x, by omega, rfl, H.out, HX.out, HB.out, HO.out, HMO.out, rfl, rfl, rfl, rfl, F0.out, .inl rfl, HR.out⟩
  case round =>
    clear H HX HO HR HB F0 HMO
    obtain ⟨k, s', x', hk, rfl, h, hx, hb, ho, hmo, hbt, hv, hcn, hn, hf, hkb, hR⟩ := hrel
    have hov := wover hx
    rw [ho.made, show (!true || x'.over) = x'.over from by cases x'.over <;> rfl] at hov
    by_cases hlt : k < m
    · have hlt' : (k : Int) < m := by omega
      by_cases hoff : x'.over = true
      · rw [hoff] at hov
        rw [wres_over hoff] at hR
        have P := Lib.hid (And.intro h (And.intro hx (And.intro hb (And.intro ho (And.intro hmo (And.intro hbt (And.intro hv (And.intro hcn (And.intro hn hf)))))))))
        have HR := Lib.hid hR; have HOFF := Lib.hid hoff
        clear h hx hb ho hmo hbt hv hcn hn hf hkb hR hoff
        go_wp2_with (go_at_call 85; refine hov.mono ?_; intro e w2 hh; obtain ⟨hh1, hh2⟩ := hh; subst hh1; obtain rfl := hh2.symm; clear hov)
        go_ret
        rw [HR.out]
        obtain ⟨p1, p2, p3, p4, p5, p6, p7, p8, p9, p10⟩ := P.out
        exact ⟨by simp, x', s', p1, p2, p3, p4, p5, p6, rfl, rfl, HOFF.out, p7, by simp only; omega, by simp only; omega, p10⟩
      · have hoff : x'.over = false := by simpa using hoff
        rw [hoff] at hov
        have hat := ho.at_ hoff
        have hin := ho.win.rng _ (nd_mem hat)
        have hvx : s'.val (wyA x') = tab (nd x'.l x'.at_).1 := by
          unfold wyA
          rw [hv, hbt]
          have h1 := tsize_bdW x.bits
          rw [hbt] at hin
          exact HT.out _ hin.1 (by omega)
        have hst := wstep_any h (CS.room_of (c + k) (by have := HC.out; omega) (by have := HCL.out; omega)) hx hmo hb ho hoff
        rw [hvx] at hst
        obtain ⟨q, hq⟩ : ∃ q, q = m - (k + 1) := ⟨_, rfl⟩
        rw [show m - k = q + 1 by omega, wres_succ ho hoff] at hR
        have ho2 := ho.next (tab := tab) hoff
        obtain ⟨n1, n2, n3, n4⟩ := next_mo x' (tab (nd x'.l x'.at_).1)
        have hR2 : R = ((wres (x'.next (tab (nd x'.l x'.at_).1)) tab (m - (k + 1))).1 + (k + 1), (wres (x'.next (tab (nd x'.l x'.at_).1)) tab (m - (k + 1))).2) := by
          rw [hR, ← hq, Prod.mk.injEq]; exact ⟨by simp only; omega, rfl⟩
        have hv2 : (s'.acc 1 (wyA x') (tab (nd x'.l x'.at_).1)).val = s.val := by
          show upd s'.val (wyA x') _ = _
          rw [← hvx, upd_selfW, hv]
        have hkb0 := hx.lt
        generalize hy : x'.next (tab (nd x'.l x'.at_).1) = y at *
        generalize hs2 : s'.acc 1 (wyA x') (tab (nd x'.l x'.at_).1) = s2 at *
        have hcn2 : s2.cnt = s.cnt + (k + 1) ∧ s2.n = s.n + (k + 1) := by rw [← hs2]; show s'.cnt + 1 = _ ∧ s'.n + 1 = _; omega
        have Q := Lib.hid (And.intro ho2 (And.intro (n1.trans hmo) (And.intro (n2.trans hbt) (And.intro hv2 (And.intro hcn2 hR2)))))
        have HF := Lib.hid hf; have HKB := Lib.hid hkb
        have HLT := Lib.hid hlt
        clear h hx hb ho hmo hbt hv hcn hn hf hkb hR hq ho2 n1 n2 n3 n4 hR2 hv2 hkb0 hcn2 hat hin hvx hy hs2
        generalize y.over = yo at hst
        go_wp2_with (first
          | (go_at_call 85; refine hov.mono ?_; intro e w2 hh; obtain ⟨hh1, hh2⟩ := hh; subst hh1; obtain rfl := hh2.symm; clear hov)
          | (go_at_call 20; refine hst.mono ?_; intro e w3 hh; obtain ⟨kb, hh1, g⟩ := hh; subst hh1; have P := Lib.hid g; clear g hst))
        go_roundw
        case rel =>
          obtain ⟨p1, p2, p3, p4, p5⟩ := P.out
          obtain ⟨q1, q2, q3, q4, q5, q6⟩ := Q.out
          refine ⟨k + 1, _, { y with kb := kb }, HLT.out, by go_num, p1, p2, p3, ⟨q1.bits, q1.win, q1.ahead, q1.at_, q1.way, q1.wayl, q1.made⟩, q2, q3, q4, q5.1, q5.2, HF.out.trans p4 HKB.out, ?_, q6⟩
          have h1 := HF.out.size
          rcases p5 with e | e
          · show kb = x.kb ∨ _
            rw [e]; exact HKB.out
          · exact .inr (Nat.le_trans h1 e)
        case measure => have := HLT.out; simp [intOf]; omega
    · obtain rfl : k = m := by omega
      rw [Nat.sub_self] at hR
      have P := Lib.hid (And.intro h (And.intro hx (And.intro hb (And.intro ho (And.intro hmo (And.intro hbt (And.intro hv (And.intro hcn (And.intro hn hf)))))))))
      have HR := Lib.hid hR
      clear h hx hb ho hmo hbt hv hcn hn hf hkb hR hov
      go_wp2
      go_ret
      rw [HR.out]
      obtain ⟨p1, p2, p3, p4, p5, p6, p7, p8, p9, p10⟩ := P.out
      have e : wres x' tab 0 = (0, x'.l, x'.way, x'.over) := by
        by_cases e : x'.over = true
        · rw [wres_over e, e]
        · have e : x'.over = false := by simpa using e
          rw [wres_zero p4 e, e]
      rw [e]
      exact ⟨by simp, x', s', p1, p2, p3, p4, p5, p6, rfl, rfl, rfl, p7, by simp only; omega, by simp only; omega, p10⟩
end Go.Proofs.YtomllmlieeaaiaaGreat

/-
  Grows: what is not there, what is over, without a world; the document's; a step.
-/
namespace Go.Proofs.YtomllmlieeaaiaaGreat
open Go.RowKit Go.Maps
set_option linter.unusedVariables false

/-- Is a Grow, a Swap, of a word over at once? -/
def gdead (t : Int) : Bool := asNow t != 0 || asOld t == 12
def sdead (t : Int) : Bool := asNow t == 0
theorem asNow_nn (t : Int) : 0 ≤ asNow t := by unfold asNow; split <;> omega
end Go.Proofs.YtomllmlieeaaiaaGreat

/-
  Grows: a step in a world. (written by gengrow.py)
-/
namespace Go.Proofs.YtomllmlieeaaiaaGreat
open Go.RowKit Go.Maps
set_option linter.unusedVariables false

theorem ws_set4 {w0 w : World} {B : WB} {V : WV} {s : CS} {b o : Nat} {cs : Array Value} {T : TypeId} (h : WS w0 w B V s) (hb : w.heap[b]? = some (.cells cs T (0, 0))) (hT : wTy T = false) (hlo : w0.heap.size ≤ b) (v : Value) : WS w0 (w.setCell ⟨b, o, none⟩ v) B V s :=
  h.fr (set_ty hb o v) (fun X hX => by cases hXT : (X == T); rfl; rw [beq_iff_eq] at hXT; subst hXT; rw [hX] at hT; cases hT) (set_below h.below h.below.size hlo o v)
theorem wu_of_wf {v : Int} (h : 0 ≤ v ∧ v < 18446744073709551616) : (Lit.int .u64 v).wf = true := bd_wf h

end Go.Proofs.YtomllmlieeaaiaaGreat

/-
  Grows: layer 19's examples.
-/
namespace Go.Proofs.YtomllmlieeaaiaaGreat
open Go.RowKit Go.Maps
set_option linter.unusedVariables false

theorem world12v (b : Int) (hb : 1 ≤ b ∧ b ≤ 12) (w : World) : Calls Tryz.prog 71 #[.int .i64 b] w fun e w' => ∃ B, e = .returned (.pointer (some ⟨B.wb, 0, none⟩)) ∧ WS w w' B (v0 ⟨b, 8, 3, 1, 16⟩) (CS.init [(2, tword b 0)]) := by
  have hn1 : Calls Tryz.prog 79 #[.agg #[.int .i64 b, .int .i64 8, .int .i64 3, .int .i64 1, .int .i64 16]] w fun e w' => ∃ B : WB, e = .returned (.tuple #[.pointer (some ⟨B.wb, 0, none⟩), .int .i64 0]) ∧ WS w w' B (v0 ⟨b, 8, 3, 1, 16⟩) (CS.init [(2, tword b 0)]) :=
    (wnew_ok ⟨b, 8, 3, 1, 16⟩ (by simp [Conf.ok]; omega) w).mono fun e w' ⟨wb, cb, ib, nb, he, g1, g2, g3, g4, g5, g6, g7⟩ => ⟨⟨wb, cb, ib, nb⟩, he, ws_of (Below.refl _ w) g1 g2 g3 g4 g5 g6 g7⟩
  clear hb
  go_enter Tryz.func71, Tryz.ntmps71
  go_wp2_with (go_at_call 79; with_reducible refine hn1.mono ?_; rintro e w1 ⟨B, rfl, h1⟩)
  go_ret
  exact ⟨_, rfl, h1⟩
theorem WS.slow {w0 w : World} {B : WB} {V : WV} {s : CS} (h : WS w0 w B V s) : w0.heap.size ≤ w.heap.size := h.below.size
end Go.Proofs.YtomllmlieeaaiaaGreat

/-
  Layer 16's tables.
-/
namespace Go.Proofs.YtomllmlieeaaiaaGreat
open Go.RowKit Go.Maps TagPure
set_option linter.unusedVariables false

structure Tb where
  qb : Int
  ta : Option Addr
  tc : Nat
  tags : List Int
  qa : Int
  qbb : Int
  qm : Int
abbrev Tb.cells (t : Tb) : Array Value := #[.int .u8 t.qb, .slice t.ta t.tags.length t.tc, .int .u16 t.qa, .int .u16 t.qbb, .int .u16 t.qm]
def Tb.bits (t : Tb) : Int := 1 + t.qb % 5
def Tb.a (t : Tb) : Int := t.qa % tsize t.bits
def Tb.b (t : Tb) : Int := t.qbb % tsize t.bits
def Tb.tab (t : Tb) (k : Int) : Int := if k.toNat < t.tags.length then t.tags.getD k.toNat 0 else 16843009 * (1 + k)
structure TbRd (w : World) (t : Tb) : Prop where
  cell : ∀ i (hi : i < t.tags.length), ∃ b off, t.ta = some ⟨b, off, none⟩ ∧ w.cell? ⟨b, off + i, none⟩ = some (.int .u64 (t.tags[i]))
  wf : ∀ v ∈ t.tags, 0 ≤ v ∧ v < 18446744073709551616
  most : t.tags.length ≤ maxLen
  rb : 0 ≤ t.qb ∧ t.qb < 256
  ra : 0 ≤ t.qa ∧ t.qa < 65536
  rbb : 0 ≤ t.qbb ∧ t.qbb < 65536
  rm : 0 ≤ t.qm ∧ t.qm < 65536
theorem TbRd.bits {w : World} {t : Tb} (h : TbRd w t) : 1 ≤ t.bits ∧ t.bits ≤ 5 := by have := h.rb; unfold Tb.bits; omega
theorem TbRd.below {w w' : World} {t : Tb} (h : TbRd w t) (hb : Below w.heap.size w w') : TbRd w' t := by
  refine ⟨fun i hi => ?_, h.wf, h.most, h.rb, h.ra, h.rbb, h.rm⟩
  obtain ⟨b, off, h1, h2⟩ := h.cell i hi
  exact ⟨b, off, h1, by have := World.block_lt_of_cell? _ _ h2; unfold World.cell? at h2 ⊢; simp only at h2 ⊢; rw [hb.block b this]; exact h2⟩
theorem tsize5 {b : Int} (h : 1 ≤ b ∧ b ≤ 5) : 2 ≤ tsize b ∧ tsize b ≤ 32 := by
  have : b = 1 ∨ b = 2 ∨ b = 3 ∨ b = 4 ∨ b = 5 := by omega
  rcases this with rfl | rfl | rfl | rfl | rfl <;> decide
theorem TbRd.ab {w : World} {t : Tb} (h : TbRd w t) : (0 ≤ t.a ∧ t.a < tsize t.bits) ∧ 0 ≤ t.b ∧ t.b < tsize t.bits := by
  have h2 := tsize5 h.bits
  unfold Tb.a Tb.b
  exact ⟨⟨Int.emod_nonneg _ (by omega), Int.emod_lt_of_pos _ (by omega)⟩, Int.emod_nonneg _ (by omega), Int.emod_lt_of_pos _ (by omega)⟩
theorem u8_smT (x : Int) (h : 0 ≤ x ∧ x < 256) : IntKind.u8.wrap x = x := by rw [IntKind.wrap_u8]; omega
theorem w64_smT (x : Int) (h : -100000 ≤ x ∧ x < 100000) : wrap64 x = x := IntWalk.wrap64_in _ (by omega)
theorem shl_bits (b : Int) (hb : 1 ≤ b ∧ b ≤ 5) (w : World) : Sem.run Tryz.prog (Op.shift BinOp.shl IntKind.i64 1 IntKind.i64 b) w = Result.ok (.int .i64 (tsize b)) w := by
  have : b = 1 ∨ b = 2 ∨ b = 3 ∨ b = 4 ∨ b = 5 := by omega
  rcases this with rfl | rfl | rfl | rfl | rfl <;> rfl
/-! ## The world of a table. -/
theorem hasP_in {b u : Int} (hb : 1 ≤ b ∧ b ≤ 12) (hu : 0 ≤ u ∧ u < tsize b) : tagsA b u = 4096 + 8 * (tsize b + u) := by
  unfold tagsA
  rw [if_pos (by simp [hasP]; omega)]
abbrev TWt (wb cb q : Nat) (t : Tb) (W : World) : Prop := W.cell? ⟨wb, 0, none⟩ = some (.pointer (some ⟨cb, 0, none⟩)) ∧ W.cell? ⟨q, 0, none⟩ = some (.int .u8 t.qb) ∧ W.cell? ⟨q, 1, none⟩ = some (.slice t.ta t.tags.length t.tc) ∧ W.cell? ⟨q, 2, none⟩ = some (.int .u16 t.qa) ∧ W.cell? ⟨q, 3, none⟩ = some (.int .u16 t.qbb) ∧ W.cell? ⟨q, 4, none⟩ = some (.int .u16 t.qm)
theorem tab_wf {w : World} {t : Tb} (h : TbRd w t) {k : Int} (hk : 0 ≤ k ∧ k < 40) : 0 ≤ t.tab k ∧ t.tab k < 18446744073709551616 := by
  unfold Tb.tab
  split
  · rename_i hl
    rw [List.getD_eq_getElem?_getD, List.getElem?_eq_getElem hl]
    exact h.wf _ (List.getElem_mem hl)
  · omega
/-! ## The argument. -/
theorem tb_u8 {x : Int} (h : (Lit.int .u8 x).wf = true) : 0 ≤ x ∧ x < 256 := by
  have hmin : IntKind.u8.min = 0 := rfl
  have hmax : IntKind.u8.max = 255 := rfl
  simp only [Lit.wf, hmin, hmax, Bool.and_eq_true, decide_eq_true_eq] at h
  omega
theorem tb_u16 {x : Int} (h : (Lit.int .u16 x).wf = true) : 0 ≤ x ∧ x < 65536 := by
  have hmin : IntKind.u16.min = 0 := rfl
  have hmax : IntKind.u16.max = 65535 := rfl
  simp only [Lit.wf, hmin, hmax, Bool.and_eq_true, decide_eq_true_eq] at h
  omega
theorem tb_u64 {x : Int} (h : (Lit.int .u64 x).wf = true) : 0 ≤ x ∧ x < 18446744073709551616 := by
  have hmin : IntKind.u64.min = 0 := rfl
  have hmax : IntKind.u64.max = 18446744073709551615 := rfl
  simp only [Lit.wf, hmin, hmax, Bool.and_eq_true, decide_eq_true_eq] at h
  omega
def tbLeaves : List Leaf := [.int .u8, .sl [.int .u64], .int .u16, .int .u16, .int .u16]
/-- A slice of words, as it was handed in. -/
theorem u64s_of {w : World} {c : Value} (h : Leaf.holds w (.sl [.int .u64]) c) : ∃ (a : Option Addr) (cap : Nat) (l : List Int), c = .slice a l.length cap ∧ l.length ≤ maxLen ∧ (∀ v ∈ l, 0 ≤ v ∧ v < 18446744073709551616) ∧ ∀ i (hi : i < l.length), ∃ b off, a = some ⟨b, off, none⟩ ∧ w.cell? ⟨b, off + i, none⟩ = some (.int .u64 (l[i])) := by
  obtain ⟨a, len, cap, rfl, h1, h2, h3, h4⟩ := h
  rcases h4 with rfl | ⟨b, off, rfl, hc⟩
  · exact ⟨a, cap, [], rfl, Nat.zero_le _, fun v hv => (by cases hv), fun i hi => absurd hi (Nat.not_lt_zero _)⟩
  · have key : ∀ i, i < len → ∃ n : Int, w.cell? ⟨b, off + i, none⟩ = some (.int .u64 n) ∧ (Lit.int .u64 n).wf = true := fun i hi => by
      obtain ⟨cs, hl, hcs, hh⟩ := hc i hi
      obtain ⟨c0, r, rfl, g0, hh⟩ := allHold_cons hh
      obtain rfl := allHold_nil hh
      obtain ⟨n, rfl, hn⟩ := holds_int g0
      have := hcs 0 (by simp)
      simp only [Leaf.many, Nat.zero_add, Nat.mul_one, Nat.add_zero, List.getElem?_cons_zero] at this
      exact ⟨n, this, hn⟩
    have : ∃ f : Nat → Int, ∀ i, i < len → w.cell? ⟨b, off + i, none⟩ = some (.int .u64 (f i)) ∧ (Lit.int .u64 (f i)).wf = true := by
      refine ⟨fun i => if h : i < len then (key i h).choose else 0, fun i hi => ?_⟩
      simp only [dif_pos hi]
      exact (key i hi).choose_spec
    obtain ⟨f, hf⟩ := this
    refine ⟨some ⟨b, off, none⟩, cap, (List.range len).map f, by simp, by simp; omega, fun v hv => ?_, fun i hi => ?_⟩
    · obtain ⟨i, hi, rfl⟩ := List.mem_map.1 hv
      exact tb_u64 (hf i (List.mem_range.1 hi)).2
    · simp only [List.length_map, List.length_range] at hi
      refine ⟨b, off, rfl, ?_⟩
      rw [(hf i hi).1]
      simp
end Go.Proofs.YtomllmlieeaaiaaGreat

/-
  Layer 16: a Way is made and runs by itself.
-/
namespace Go.Proofs.YtomllmlieeaaiaaGreat
open Go.RowKit Go.Maps TagPure
set_option linter.unusedVariables false

theorem own_loW {w : World} {base b2 e size n : Nat} {v : Value} {xs : List Value} (h : w.ownsRow base e size v n xs) (hl : b2 ≤ base) : w.ownsRow b2 e size v n xs := by
  obtain ⟨h1, h2 | ⟨g, cap, cur, rfl, hb, hg, r⟩⟩ := h
  · exact ⟨h1, .inl h2⟩
  · exact ⟨h1, .inr ⟨g, cap, cur, rfl, Nat.le_trans hl hb, hg, r⟩⟩
theorem WayAt.lower {w : World} {lo lo' xb : Nat} {x : WY} (h : WayAt w lo xb x) (hl : lo' ≤ lo) : WayAt w lo' xb x := by
  obtain ⟨h0, ⟨vb, vw, h1, h2, h3, h4⟩, h5, h6, h7⟩ := h
  exact ⟨Nat.le_trans hl h0, ⟨vb, vw, h1, own_loW h2 hl, own_loW h3 hl, h4⟩, fun m hm => ⟨Nat.le_trans hl (h5 m hm).1, (h5 m hm).2⟩, h6, h7⟩
theorem way_fresh {w0 w w1 : World} {B : WB} {V : WV} {s : CS} {m : Nat} (h : WS w0 w B V s) (hb : Below w.heap.size w w1) (hm : w.heap.size ≤ m) : Besd w1 B V m := by
  refine ⟨fun c => ?_, fun q hq e => ?_⟩
  · obtain ⟨⟨S', hS'⟩, -⟩ := h.own
    obtain ⟨mo, f, hA, rfl⟩ := hS'
    have e : w1.cell? ⟨B.cb, 0, none⟩ = some (.map mo) := by
      have h1 := (hb.block _ (Array.getElem?_eq_some_iff.1 hA.hdr).1).trans hA.hdr
      rw [hcell h1]; rfl
    rw [e] at c
    simp only [Option.some.injEq, Value.map.injEq] at c
    have := (hA.map m c).1.lt
    omega
  · have := (Array.getElem?_eq_some_iff.1 (h.fmk q hq).1).1
    omega
theorem wnew_ok2 {bits most a b : Int} {kb m : Nat} (hb : 1 ≤ bits ∧ bits ≤ 12) (ha : 0 ≤ a ∧ a < tsize bits) (hb2 : 0 ≤ b ∧ b < tsize bits) : WyOk (wnew bits most a b kb m) := by
  have hp := tsize_pos hb
  have hsh := wfirst_sh (N := (tsize bits).toNat) (fun _ _ => 0) (fun _ => 0) (a := a) (b := b) (by omega) (by omega)
  refine ⟨hb, hsh.win, hsh.ahead, fun _ => ?_, fun _ => rfl, Nat.zero_le _, rfl⟩
  show 0 < (wfirst a b).length
  unfold wfirst; split <;> simp
theorem wres_new (bits most a b : Int) (kb m : Nat) (tab : Int → Int) (n : Nat) : wres (wnew bits most a b kb m) tab n = wrun most (tabO bits tab) (tabF tab) n 0 (wfirst a b) := by
  exact if_neg (fun h : false = true => by cases h)
/-- What a Way says behind its run. -/
structure WayR (w : World) (lo xb : Nat) (x : WY) (bits : Int) (r : Nat × List Nd × List (Int × Int) × Bool) : Prop where
  at_ : WayAt w lo xb x
  bits_ : x.bits = bits
  l : x.l = r.2.1
  way : x.way = r.2.2.1
  over : x.over = r.2.2.2
  ok : WyOk x
/-- A run from the start on: it changes nothing that was. -/
theorem newrun {w0 w w1 : World} {B : WB} {V : WV} {s : CS} {xb kb mb : Nat} {bits most a b : Int} {tab : Int → Int} (m : Nat) (hm : m ≤ 1000) (c : Nat) (hc : s.n ≤ c ∧ s.cnt ≤ c) (hcl : c + 1000 < lim) (h : WS w0 w B V s) (hbl : Below w.heap.size w w1) (hx : WayAt w1 w.heap.size xb (wnew bits most a b kb mb)) (hmb : w.heap.size ≤ mb) (hkb : w.heap.size ≤ kb) (hb : 1 ≤ bits ∧ bits ≤ 12) (ha : 0 ≤ a ∧ a < tsize bits) (hb2 : 0 ≤ b ∧ b < tsize bits) (ht : TabOf bits tab s) :
    Calls Tryz.prog 60 #[.pointer (some ⟨B.wb, 0, none⟩), .iface 44 (.pointer (some ⟨xb, 0, none⟩)), .int .i64 m] w1 fun e w' => e = .returned (.int .i64 ((wrun most (tabO bits tab) (tabF tab) m 0 (wfirst a b)).1 : Nat)) ∧ ∃ (x' : WY) (s' : CS), WS w0 w' B V s' ∧ WayR w' w0.heap.size xb x' bits (wrun most (tabO bits tab) (tabF tab) m 0 (wfirst a b)) ∧ x'.mo = some mb ∧ Besd w' B V mb ∧ s'.val = s.val ∧ s'.cnt = s.cnt + (wrun most (tabO bits tab) (tabF tab) m 0 (wfirst a b)).1 ∧ s'.n = s.n + (wrun most (tabO bits tab) (tabF tab) m 0 (wfirst a b)).1 ∧ Fr wTy true w w' ∧ Fy xb kb w1 w' := by
  have hx2 : WayAt w1 w0.heap.size xb (wnew bits most a b kb mb) := hx.lower h.below.size
  have hlow := hx.low
  refine (wayrun (tab := tab) m hm c hc hcl (h.keep hbl) hx2 rfl (way_fresh h hbl hmb) (wnew_ok2 hb ha hb2) ht).mono ?_
  rw [wres_new]
  intro e w' hh
  obtain ⟨h1, x', s', g1, g2, g3, g4, g5, g6, g7, g8, g9, g10, g11, g12, g13⟩ := hh
  refine ⟨h1, x', s', g1, ⟨g2, g6, g7, g8, g9, g4⟩, g5, g3, g10, g11, g12, ?_, g13⟩
  refine ⟨Nat.le_trans hbl.size g13.size, fun k cs T fr hk hT => ?_, fun c => by cases c⟩
  have hlt := (Array.getElem?_eq_some_iff.1 hk).1
  refine g13.cells k cs T fr ((hbl.block k hlt).trans hk) hT (by omega) ?_
  show k ≠ kb
  omega
/-- A Way is left by what changes nothing that was. -/
theorem WayR.frm {w w' : World} {lo xb : Nat} {x : WY} {bits : Int} {r : Nat × List Nd × List (Int × Int) × Bool} (h : WayR w lo xb x bits r) (hf : Fr wTy true w w') (hm : ∀ m, x.mo = some m → w'.heap[m]? = w.heap[m]?) : WayR w' lo xb x bits r :=
  ⟨h.at_.frm hf w_not_y hm, h.bits_, h.l, h.way, h.over, h.ok⟩
theorem WayR.below {w w' : World} {lo xb : Nat} {x : WY} {bits : Int} {r : Nat × List Nd × List (Int × Int) × Bool} (h : WayR w lo xb x bits r) (hb : Below w.heap.size w w') : WayR w' lo xb x bits r :=
  ⟨h.at_.below hb, h.bits_, h.l, h.way, h.over, h.ok⟩
theorem WayAt.kb_lt {w : World} {lo xb : Nat} {x : WY} (h : WayAt w lo xb x) : x.kb < w.heap.size := by
  have hl := h.lt
  obtain ⟨h0, ⟨vb, vw, h1, h2, h3, h4⟩, -⟩ := h
  rcases h4 with h4 | ⟨-, h4⟩
  · obtain ⟨cur, hc⟩ := own_blk h2 h4
    exact (Array.getElem?_eq_some_iff.1 hc).1
  · rw [h4]; exact hl
/-- A Way behind its run, its map marked. -/
def WayH (w : World) (lo xb : Nat) (V : WV) (bits : Int) (r : Nat × List Nd × List (Int × Int) × Bool) : Prop :=
  ∃ x m es cl, WayR w lo xb x bits r ∧ x.mo = some m ∧ w.heap[m]? = some (.map es cl) ∧ (m, es, cl) ∈ V.fm
section
variable {w0 w w' : World} {B : WB} {V V' : WV} {s s' : CS} {lo xb : Nat} {bits : Int} {r : Nat × List Nd × List (Int × Int) × Bool}
theorem WayH.step (h : WayH w lo xb V bits r) (hw : WS w0 w' B V s') (hf : Fr wTy true w w') : WayH w' lo xb V bits r := by
  obtain ⟨x, m, es, cl, h1, h2, h3, h4⟩ := h
  have e := (hw.fmk _ h4).1
  refine ⟨x, m, es, cl, h1.frm hf (fun m' hm' => ?_), h2, e, h4⟩
  rw [h2] at hm'; cases hm'
  exact e.trans h3.symm
theorem WayH.below (h : WayH w lo xb V bits r) (hb : Below w.heap.size w w') : WayH w' lo xb V bits r := by
  obtain ⟨x, m, es, cl, h1, h2, h3, h4⟩ := h
  exact ⟨x, m, es, cl, h1.below hb, h2, (hb.block _ (Array.getElem?_eq_some_iff.1 h3).1).trans h3, h4⟩
theorem WayH.mono (h : WayH w lo xb V bits r) (hs : ∀ q ∈ V.fm, q ∈ V'.fm) : WayH w lo xb V' bits r := by
  obtain ⟨x, m, es, cl, h1, h2, h3, h4⟩ := h
  exact ⟨x, m, es, cl, h1, h2, h3, hs _ h4⟩
theorem WayH.got (h : WayH w lo xb V bits r) (hl : r.2.2.1.length ≤ 10000) : Calls Tryz.prog 72 #[.pointer (some ⟨xb, 0, none⟩)] w fun e w' => ∃ v, e = .returned v ∧ SpN w' w.heap.size v bits r.2.2.1 ∧ Below w.heap.size w w' := by
  obtain ⟨x, m, es, cl, h1, h2, h3, h4⟩ := h
  have := wgot h1.at_ (by rw [h1.way]; omega)
  rw [h1.bits_, h1.way] at this
  exact this
theorem WayH.nodes (h : WayH w lo xb V bits r) : Calls Tryz.prog 75 #[.pointer (some ⟨xb, 0, none⟩)] w fun e w' => e = .returned (.int .i64 r.2.1.length) ∧ w' = w := by
  obtain ⟨x, m, es, cl, h1, h2, h3, h4⟩ := h
  have := wnodes h1.at_
  rw [h1.l] at this
  exact this
theorem WayH.isover (h : WayH w lo xb V bits r) : Calls Tryz.prog 85 #[.pointer (some ⟨xb, 0, none⟩)] w fun e w' => e = .returned (.bool r.2.2.2) ∧ w' = w := by
  obtain ⟨x, m, es, cl, h1, h2, h3, h4⟩ := h
  have := wover h1.at_
  rw [h1.ok.made, h1.over, show (!true || r.2.2.2) = r.2.2.2 from by cases r.2.2.2 <;> rfl] at this
  exact this
end
abbrev WV.plus (V : WV) (p : Nat × Array MapEntry × Nat) : WV := { V with fm := p :: V.fm }
theorem newrunH {w0 w w1 : World} {B : WB} {V : WV} {s : CS} {xb kb mb : Nat} {bits most a b : Int} {tab : Int → Int} (m : Nat) (hm : m ≤ 1000) (c : Nat) (hc : s.n ≤ c ∧ s.cnt ≤ c) (hcl : c + 1000 < lim) (h : WS w0 w B V s) (hbl : Below w.heap.size w w1) (hx : WayAt w1 w.heap.size xb (wnew bits most a b kb mb)) (hmb : w.heap.size ≤ mb) (hkb : w.heap.size ≤ kb) (hb : 1 ≤ bits ∧ bits ≤ 12) (ha : 0 ≤ a ∧ a < tsize bits) (hb2 : 0 ≤ b ∧ b < tsize bits) (ht : TabOf bits tab s) (r : Nat × List Nd × List (Int × Int) × Bool) (hr : r = wrun most (tabO bits tab) (tabF tab) m 0 (wfirst a b)) :
    Calls Tryz.prog 60 #[.pointer (some ⟨B.wb, 0, none⟩), .iface 44 (.pointer (some ⟨xb, 0, none⟩)), .int .i64 m] w1 fun e w' => e = .returned (.int .i64 (r.1 : Nat)) ∧ ∃ p s', WS w0 w' B (V.plus p) s' ∧ WayH w' w0.heap.size xb (V.plus p) bits r ∧ s'.val = s.val ∧ s'.cnt = s.cnt + r.1 ∧ s'.n = s.n + r.1 ∧ Fr wTy true w w' ∧ Fy xb kb w1 w' := by
  subst hr
  refine (newrun (tab := tab) m hm c hc hcl h hbl hx hmb hkb hb ha hb2 ht).mono fun e w' hh => ?_
  obtain ⟨h1, x', s', g1, g2, g3, g4, g5, g6, g7, g8, g9⟩ := hh
  obtain ⟨es, cl, hmb2⟩ := (g2.at_.mp mb g3).2.blk
  exact ⟨h1, (mb, es, cl), s', g1.more hmb2 g4.ne, ⟨x', mb, es, cl, g2, g3, hmb2, by simp⟩, g5, g6, g7, g8, g9⟩
end Go.Proofs.YtomllmlieeaaiaaGreat

/-
  Layer 16's example.
-/
namespace Go.Proofs.YtomllmlieeaaiaaGreat
open Go.RowKit Go.Maps TagPure
set_option linter.unusedVariables false

def tab16 : Int → Int := fun k => if k = 1 ∨ k = 2 then 151587081 else 0
theorem ex16a : wrun 9 (tabO 2 fun _ => 0) (tabF fun _ => 0) 9 0 (wfirst 1 2) = (1, [(1, -1, -1), (2, -1, -1)], [(1, 0)], true) := by kernel_rfl
theorem ex16b : wrun 9 (tabO 2 tab16) (tabF tab16) 9 0 (wfirst 1 2) = (3, [(1, -1, -1), (2, -1, -1), (0, 0, 0), (3, 1, 0)], [(1, 0), (0, 0)], true) := by kernel_rfl
theorem ex16c : (wrun 2 (tabO 2 tab16) (tabF tab16) 9 0 (wfirst 1 2)).1 = 2 ∧ (wrun 2 (tabO 2 tab16) (tabF tab16) 9 0 (wfirst 1 2)).2.2.1 = [] := ⟨by kernel_rfl, by kernel_rfl⟩
theorem init_valP (t a : Int) : (CS.init [(2, t)]).val a = if a = 2 then t else 0 := by
  show upd (fun _ => (0 : Int)) 2 t a = _
  unfold upd; rfl
theorem tab_init (b t : Int) (hb : 1 ≤ b ∧ b ≤ 12) : TabOf b (fun _ => 0) (CS.init [(2, t)]) := fun k h0 h1 => by
  rw [init_valP, hasP_in hb ⟨h0, h1⟩, if_neg (by omega)]
abbrev TWc16 (wb cb : Nat) (W : World) : Prop := W.cell? ⟨wb, 0, none⟩ = some (.pointer (some ⟨cb, 0, none⟩))
set_option maxRecDepth 10000 in
set_option maxHeartbeats 4000000 in
theorem lives16 (w : World) : Calls Tryz.prog 13 #[] w fun e w' => e = .returned (.bool true) ∧ Below w.heap.size w w' := by
  have hNW := Lib.hid (fun W most => newway_ok 2 1 2 most (by decide) (by decide) W)
  have htg := fun (b : Int) W => tags_any 2 b W
  have HTG := Lib.hid htg
  clear htg
  go_enter Tryz.func13, Tryz.ntmps13
  go_upto_region 4 with (go_at_call 71; refine (world12v 2 (by decide) w).mono ?_; intro e w1 hh; obtain ⟨B, hh1, h1⟩ := hh; subst hh1; have H1 := Lib.hid h1; clear h1)
  obtain ⟨s1, hs1⟩ : ∃ s1, s1 = CS.init [(2, tword 2 0)] := ⟨_, rfl⟩
  have ht1 : TabOf 2 (fun _ => 0) s1 := by rw [hs1]; exact tab_init 2 _ (by decide)
  have hc1 : s1.n ≤ 1 ∧ s1.cnt ≤ 1 := by have h := CS.init_n [(2, tword 2 0)]; rw [hs1, h.1, h.2.1]; simp
  rw [← hs1] at H1
  have HT1 := Lib.hid ht1; have HC1 := Lib.hid hc1
  clear hs1 ht1 hc1
  have n1 := hNW.out w1 9
  go_upto_region 7 with (first
    | (go_at_call 15; refine n1.mono ?_; intro e w2 hh; obtain ⟨xb, kb, mb, hh1, hx, bx, hmb, hkb⟩ := hh; subst hh1; have hr2 := newrunH 9 (by decide) 1 HC1.out (by unfold lim; decide) H1.out bx hx hmb hkb (by decide) (by decide) (by decide) HT1.out _ rfl; rw [ex16a] at hr2; clear hx bx hmb hkb n1)
    | (go_at_call 60; refine hr2.mono ?_; intro e w3 hh; obtain ⟨hh1, p3, s3, h3, x3, v3, c3, n3, f3, -⟩ := hh; subst hh1; have hg3 := x3.got (by decide); have H3 := Lib.hid h3; have X3 := Lib.hid x3; have C3 := Lib.hid (And.intro v3 (And.intro c3 n3)); clear h3 x3 v3 c3 n3 f3 hr2)
    | (go_at_call 72; refine hg3.mono ?_; intro e w4 hh; obtain ⟨va, hh1, a4, b4⟩ := hh; subst hh1; have H4 := Lib.hid (H3.out.keep b4); have X4 := Lib.hid (X3.out.below b4); have A4 := Lib.hid a4; clear a4 b4 hg3 H3 X3))
  have hst4 : Hid (∀ W, Below w4.heap.size w4 W → Calls Tryz.prog 73 #[.pointer (some ⟨B.cb, 0, none⟩), .int .u64 (tagsA 2 1), .int .u64 151587081] W fun e w' => e = .returned (.int .u64 (s3.val (tagsA 2 1))) ∧ WS w w' B ((v0 ⟨2, 8, 3, 1, 16⟩).plus p3) (s3.acc 2 (tagsA 2 1) 151587081) ∧ Fr wTy true W w') := fun W hW => (H4.out.keep hW).store (CS.room_of 100 (by have := HC1.out; have := C3.out; omega) (by unfold lim; omega)) _ (tagsA_wf _ _) _ (by decide)
  have hs4 : TWc16 B.wb B.cb w4.drew := H4.out.c0
  have htg := HTG.out 1
  go_region_held2 (fun W => TWc16 B.wb B.cb W) (assumption) (first
    | (go_at_call 74; refine (htg _).mono ?_; intro e w5 hh; obtain ⟨hh1, b5⟩ := hh; subst hh1; have b5' := (Below.refl w4.heap.size w4).drew.trans b5; have s5 : TWc16 B.wb B.cb w5 := (H4.out.keep b5').c0; have X5 := Lib.hid (X4.out.below b5'); have A5 := Lib.hid (A4.out.below b5'); have hst5 := hst4.out w5 b5'; clear b5 b5' hs4 htg hst4 X4 A4)
    | (go_at_call 73; refine hst5.mono ?_; intro e w6 hh; obtain ⟨hh1, h6, f6⟩ := hh; subst hh1; have H6 := Lib.hid h6; have X6 := Lib.hid (X5.out.step h6 f6); have A6 := Lib.hid (A5.out.fr f6 rfl); have s6 : TWc16 B.wb B.cb w6 := h6.c0; clear h6 f6 hst5 s5 X5 A5))
  obtain ⟨s7, hs7⟩ : ∃ s7, s7 = s3.acc 2 (tagsA 2 1) 151587081 := ⟨_, rfl⟩
  rw [← hs7] at H6
  have S7 := Lib.hid hs7
  have hs6 : TWc16 B.wb B.cb w6.drew := H6.out.c0
  clear s6 hs7 H4
  have hst6 : Hid (∀ W, Below w6.heap.size w6 W → Calls Tryz.prog 73 #[.pointer (some ⟨B.cb, 0, none⟩), .int .u64 (tagsA 2 2), .int .u64 151587081] W fun e w' => e = .returned (.int .u64 (s7.val (tagsA 2 2))) ∧ WS w w' B ((v0 ⟨2, 8, 3, 1, 16⟩).plus p3) (s7.acc 2 (tagsA 2 2) 151587081) ∧ Fr wTy true W w') := fun W hW => (H6.out.keep hW).store (CS.room_of 100 (by rw [S7.out]; show s3.n + 1 ≤ 100 ∧ s3.cnt + 1 ≤ 100; have := HC1.out; have := C3.out; omega) (by unfold lim; omega)) _ (tagsA_wf _ _) _ (by decide)
  have htg2 := HTG.out 2
  go_upto_region 8 with (fail)
  go_region_held2 (fun W => TWc16 B.wb B.cb W) (assumption) (first
    | (go_at_call 74; refine (htg2 _).mono ?_; intro e w7 hh; obtain ⟨hh1, b7⟩ := hh; subst hh1; have b7' := (Below.refl w6.heap.size w6).drew.trans b7; have s7' : TWc16 B.wb B.cb w7 := (H6.out.keep b7').c0; have X7 := Lib.hid (X6.out.below b7'); have A7 := Lib.hid (A6.out.below b7'); have hst7 := hst6.out w7 b7'; clear b7 b7' hs6 htg2 hst6 X6 A6)
    | (go_at_call 73; refine hst7.mono ?_; intro e w8 hh; obtain ⟨hh1, h8, f8⟩ := hh; subst hh1; have H8 := Lib.hid h8; have X8 := Lib.hid (X7.out.step h8 f8); have A8 := Lib.hid (A7.out.fr f8 rfl); have s8' : TWc16 B.wb B.cb w8 := h8.c0; clear h8 f8 hst7 s7' X7 A7))
  obtain ⟨s8, hs8⟩ : ∃ s8, s8 = s7.acc 2 (tagsA 2 2) 151587081 := ⟨_, rfl⟩
  rw [← hs8] at H8
  have ht8 : TabOf 2 tab16 s8 := fun b h0 h1 => by
    have t4 : tsize 2 = 4 := by decide
    have e1 : tagsA 2 1 = 4136 := by decide
    have e2 : tagsA 2 2 = 4144 := by decide
    rw [hasP_in (by decide) ⟨h0, h1⟩, hs8, S7.out]
    show upd (upd s3.val (tagsA 2 1) 151587081) (tagsA 2 2) 151587081 _ = _
    rw [C3.out.1, e1, e2, t4]
    have h1' : b < 4 := by omega
    have : b = 0 ∨ b = 1 ∨ b = 2 ∨ b = 3 := by omega
    have hz := HT1.out b h0 h1
    rw [hasP_in (by decide) ⟨h0, h1⟩, t4] at hz
    unfold upd tab16
    rcases this with rfl | rfl | rfl | rfl
    · simp; exact hz
    · simp
    · simp
    · simp; exact hz
  have hc8 : s8.n ≤ 10 ∧ s8.cnt ≤ 10 := by rw [hs8, S7.out]; show s3.n + 1 + 1 ≤ 10 ∧ s3.cnt + 1 + 1 ≤ 10; have := HC1.out; have := C3.out; omega
  have HT8 := Lib.hid ht8; have HC8 := Lib.hid hc8
  clear s8' hs8 ht8 hc8 H6 S7 HT1 HC1 C3
  have n8 := hNW.out w8 9
  go_upto_region 12 with (first
    | (go_at_call 15; refine n8.mono ?_; intro e w9 hh; obtain ⟨yb, kb9, mb9, hh1, hx, bx, hmb, hkb⟩ := hh; subst hh1; have hr9 := newrunH 9 (by decide) 10 HC8.out (by unfold lim; decide) H8.out bx hx hmb hkb (by decide) (by decide) (by decide) HT8.out _ rfl; rw [ex16b] at hr9; clear hx bx hmb hkb n8)
    | (go_at_call 60; refine hr9.mono ?_; intro e w10 hh; obtain ⟨hh1, p10, s10, h10, y10, v10, c10, n10, f10, -⟩ := hh; subst hh1; have hg10 := y10.got (by decide); have H10 := Lib.hid h10; have Y10 := Lib.hid y10; have X10 := Lib.hid ((X8.out.mono (fun q hq => List.mem_cons_of_mem _ hq)).step h10 f10); have A10 := Lib.hid (A8.out.fr f10 rfl); have C10 := Lib.hid (And.intro v10 (And.intro c10 n10)); clear h10 y10 v10 c10 n10 f10 hr9 H8 X8 A8)
    | (go_at_call 72; refine hg10.mono ?_; intro e w11 hh; obtain ⟨vc, hh1, a11, b11⟩ := hh; subst hh1; have H11 := Lib.hid (H10.out.keep b11); have X11 := Lib.hid (X10.out.below b11); have Y11 := Lib.hid (Y10.out.below b11); have A11 := Lib.hid (A10.out.below b11); have D11 := Lib.hid a11; clear a11 b11 hg10 H10 X10 Y10 A10))
  have ht11 : TabOf 2 tab16 s10 := fun b h0 h1 => by rw [C10.out.1]; exact HT8.out b h0 h1
  have HT11 := Lib.hid ht11
  have HC11 := Lib.hid (show s10.n ≤ 20 ∧ s10.cnt ≤ 20 by have a1 : s10.cnt = s8.cnt + 3 := C10.out.2.1; have a2 : s10.n = s8.n + 3 := C10.out.2.2; have := HC8.out; omega)
  clear ht11 HT8 HC8 C10
  have n11 := hNW.out w11 2
  obtain ⟨va1, rfl, -⟩ := A11.out.sl
  obtain ⟨vc1, rfl, -⟩ := D11.out.sl
  go_upto_region 14 with (first
    | (go_at_call 15; refine n11.mono ?_; intro e w12 hh; obtain ⟨zb, kb12, mb12, hh1, hx, bx, hmb, hkb⟩ := hh; subst hh1; have hr12 := newrunH 9 (by decide) 20 HC11.out (by unfold lim; decide) H11.out bx hx hmb hkb (by decide) (by decide) (by decide) HT11.out _ rfl; rw [ex16c.1] at hr12; clear hx bx hmb hkb n11)
    | (go_at_call 60; refine hr12.mono ?_; intro e w13 hh; obtain ⟨hh1, p13, s13, h13, z13, v13, c13, n13, f13, -⟩ := hh; subst hh1; have H13 := Lib.hid h13; have hg13 := z13.got (by rw [ex16c.2]; decide); rw [ex16c.2] at hg13; have X13 := Lib.hid ((X11.out.mono (fun q hq => List.mem_cons_of_mem _ hq)).step h13 f13); have Y13 := Lib.hid ((Y11.out.mono (fun q hq => List.mem_cons_of_mem _ hq)).step h13 f13); have A13 := Lib.hid (A11.out.fr f13 rfl); have D13 := Lib.hid (D11.out.fr f13 rfl); clear h13 z13 v13 c13 n13 f13 hr12 H11 X11 Y11 A11 D11))
  go_upto_region 16 with (go_at_call 72; refine hg13.mono ?_; intro e w14 hh; obtain ⟨vz, hh1, a14, b14⟩ := hh; subst hh1; obtain ⟨vz1, rfl, -⟩ := a14.sl; have H14 := Lib.hid (H13.out.keep b14); have X14 := Lib.hid (X13.out.below b14); have Y14 := Lib.hid (Y13.out.below b14); have A14 := Lib.hid (A13.out.below b14); have D14 := Lib.hid (D13.out.below b14); clear b14 a14 hg13 H13 X13 Y13 A13 D13)
  go_upto_region 17 with (fail)
  have hb15 := below_alloc w14 (.cells #[.int .i64 2, .int .i64 1, .int .i64 0] 71)
  have hz15 := heap_alloc_new w14 (.cells #[.int .i64 2, .int .i64 1, .int .i64 0] 71)
  have X15 := Lib.hid (X14.out.below hb15); have Y15 := Lib.hid (Y14.out.below hb15)
  have A15 := A14.out.below hb15; have D15 := D14.out.below hb15
  have H15 := Lib.hid (H14.out.keep hb15)
  clear hb15 H14 X14 Y14 A14 D14
  change Code.wp _ _ _ _ (w14.alloc (.cells #[.int .i64 2, .int .i64 1, .int .i64 0] 71))
  generalize w14.alloc (.cells #[.int .i64 2, .int .i64 1, .int .i64 0] 71) = w15 at *
  generalize w14.heap.size = tr at *
  obtain ⟨ga, e1, -, -, a0, a1, a2, -⟩ := A15.at 0 (by decide)
  obtain ⟨gd, e2, -, -, d0, d1, d2, -⟩ := D15.at 0 (by decide)
  obtain ⟨gd', e3, -, -, d3, d4, d5, -⟩ := D15.at 1 (by decide)
  simp only [Value.slice.injEq] at e1 e2 e3
  obtain ⟨rfl, -, -⟩ := e1
  obtain ⟨rfl, -, -⟩ := e2
  obtain ⟨e3, -, -⟩ := e3
  simp only [Option.some.injEq, Addr.mk.injEq, and_true] at e3
  subst e3
  simp only [Nat.zero_mul, Nat.one_mul] at a0 a1 a2 d0 d1 d2 d3 d4 d5
  have t0 : w15.cell? ⟨tr, 0, none⟩ = some (.int .i64 2) := hcell hz15 0
  have t1 : w15.cell? ⟨tr, 1, none⟩ = some (.int .i64 1) := hcell hz15 1
  have t2 : w15.cell? ⟨tr, 2, none⟩ = some (.int .i64 0) := hcell hz15 2
  have x0 := fun st : ExtW w15 => st.cell a0; have x1 := fun st : ExtW w15 => st.cell a1; have x2 := fun st : ExtW w15 => st.cell a2
  have x3 := fun st : ExtW w15 => st.cell d0; have x4 := fun st : ExtW w15 => st.cell d1; have x5 := fun st : ExtW w15 => st.cell d2
  have x6 := fun st : ExtW w15 => st.cell d3; have x7 := fun st : ExtW w15 => st.cell d4; have x8 := fun st : ExtW w15 => st.cell d5
  have x9 := fun st : ExtW w15 => st.cell t0; have x10 := fun st : ExtW w15 => st.cell t1; have x11 := fun st : ExtW w15 => st.cell t2
  have hnx : ∀ st : ExtW w15, Calls Tryz.prog 75 #[.pointer (some ⟨xb, 0, none⟩)] st.val fun e w' => e = .returned (.int .i64 2) ∧ Below st.val.heap.size st.val w' := fun st => ((X15.out.below st.below).nodes).mono fun e w' hh => ⟨hh.1, hh.2 ▸ Below.refl _ _⟩
  have hny : ∀ st : ExtW w15, Calls Tryz.prog 75 #[.pointer (some ⟨yb, 0, none⟩)] st.val fun e w' => e = .returned (.int .i64 4) ∧ Below st.val.heap.size st.val w' := fun st => ((Y15.out.below st.below).nodes).mono fun e w' hh => ⟨hh.1, hh.2 ▸ Below.refl _ _⟩
  clear a0 a1 a2 d0 d1 d2 d3 d4 d5 t0 t1 t2 A15 D15 hz15
  refine wp_region_ext (by kernel_rfl) (by kernel_rfl) ?_
  repeat (go_big_quiet_step (first
    | (go_at_call 75; with_reducible refine calls_ext (hnx _))
    | (go_at_call 75; with_reducible refine calls_ext (hny _))))
  refine wpQuiet_nil ?_
  rintro W ⟨⟨W2, hW⟩, rfl⟩
  have H16 := Lib.hid (H15.out.keep hW)
  clear x0 x1 x2 x3 x4 x5 x6 x7 x8 x9 x10 x11 hnx hny hW
  go_wp2_with (fail)
  go_ret
  exact ⟨rfl, H16.out.below⟩
end Go.Proofs.YtomllmlieeaaiaaGreat
