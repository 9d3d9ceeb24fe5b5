import Derived.Test.YtmakjfeepmiggaaGreatZ26
namespace Go.Proofs.YtmakjfeepmiggaaGreat
open Go.RowKit Go.Maps TagPure
set_option linter.unusedVariables false
theorem rdg_new_mark {W w' : World} {lo q : Nat} {l : List (Int × Int)} (hm : RMarkAt w' W.heap.size q (vof l) 0) (hl : lo ≤ W.heap.size) (hq : W.heap.size ≤ q) (hll : l.length ≤ 100) : RDgAt w' lo q (.mark (vof l)) := by
  obtain ⟨v, h1, h2⟩ := hm
  have := vof_len l
  exact ⟨Nat.le_trans hl hq, vof l, 0, ⟨v, h1, own_lo17 h2 hl⟩, by omega, Nat.zero_le _, rfl⟩
theorem rdg_new_out {w' : World} {lo q : Nat} {b u s : Int} (hO : ROp w' q (if aliveO b u s then 1 else 0) false true b u s 0 0 0) (hs : (Lit.int .i64 s).wf = true) (hq : lo ≤ q) : RDgAt w' lo q (.out (sof b u s)) := by
  by_cases hi : itemA b u s = 0
  · have e : sof b u s = ⟨0, 0, 0, 0, 0⟩ := by unfold sof; rw [if_pos hi]
    have ha : aliveO b u s = false := by unfold aliveO; rw [hi]; rfl
    rw [ha] at hO
    rw [e]
    exact ⟨hq, false, b, u, s, hs, hO, .inl rfl⟩
  · have e : sof b u s = ⟨tagsA b u, itemA b u s, s, 0, 0⟩ := by unfold sof; rw [if_neg hi]
    have ha : aliveO b u s = true := bne_iff_ne.2 hi
    rw [ha] at hO
    rw [e]
    refine ⟨hq, false, b, u, s, hs, ?_, .inr ⟨rfl, rfl, rfl⟩⟩
    have hd : dln ⟨tagsA b u, itemA b u s, s, 0, 0⟩ = 1 := by
      unfold dln; rw [if_neg (by rintro (c | c); exact itemA_tags hi c; cases c)]; rfl
    rw [hd]; exact hO
theorem rdg_new_put {w' : World} {lo q : Nat} {b u s g r : Int} (hO : ROp w' q (if aliveP b u s g r then 1 else 0) false false b u s g r 0) (hs : (Lit.int .i64 s).wf = true) (hq : lo ≤ q) : RDgAt w' lo q (hsput (b, u, s) g r) := by
  unfold hsput
  by_cases hg : g < 1 ∨ 255 < g ∨ r < 1
  · rw [if_pos hg]
    have ha : aliveP b u s g r = false := by
      unfold aliveP
      rcases hg with h | h | h
      · rw [show decide (0 < g) = false from decide_eq_false (by omega)]; simp
      · rw [show decide (g < 256) = false from decide_eq_false (by omega)]; simp
      · rw [show decide (0 < r) = false from decide_eq_false (by omega)]; simp
    rw [ha] at hO
    exact ⟨hq, b, u, s, g, r, hs, hO, .inl rfl⟩
  · rw [if_neg hg]
    by_cases hi : itemA b u s = 0
    · have e : sof b u s = ⟨0, 0, 0, 0, 0⟩ := by unfold sof; rw [if_pos hi]
      have ha : aliveP b u s g r = false := by unfold aliveP; rw [show (itemA b u s != 0) = false by rw [hi]; rfl]; rfl
      rw [ha] at hO
      show RDgAt w' lo q (.put (sof b u s) g r)
      rw [e]
      exact ⟨hq, b, u, s, g, r, hs, hO, .inl rfl⟩
    · have e : sof b u s = ⟨tagsA b u, itemA b u s, s, 0, 0⟩ := by unfold sof; rw [if_neg hi]
      have ha : aliveP b u s g r = true := by
        unfold aliveP
        rw [show (itemA b u s != 0) = true from bne_iff_ne.2 hi, show decide (0 < g) = true from decide_eq_true (by omega), show decide (g < 256) = true from decide_eq_true (by omega), show decide (0 < r) = true from decide_eq_true (by omega)]
        rfl
      rw [ha] at hO
      show RDgAt w' lo q (.put (sof b u s) g r)
      rw [e]
      refine ⟨hq, b, u, s, g, r, hs, ?_, .inr ⟨rfl, rfl, rfl, rfl, rfl⟩⟩
      have hd : dln ⟨tagsA b u, itemA b u s, s, 0, 0⟩ = 1 := by
        unfold dln; rw [if_neg (by rintro (c | c); exact itemA_tags hi c; cases c)]; rfl
      rw [hd]; exact hO
theorem blk_set {W : World} {n b : Nat} {c cs : Array Value} {T T' : TypeId} (h : W.heap[n]? = some (.cells c T (0, 0))) (hb : W.heap[b]? = some (.cells cs T' (0, 0))) (hT : T ≠ T') (o : Nat) (v : Value) : (W.setCell ⟨b, o, none⟩ v).heap[n]? = some (.cells c T (0, 0)) :=
  (Below.heap_setCell W ⟨b, o, none⟩ v n (fun e => by
    rw [e, hb] at h
    simp only [Option.some.injEq, Obj.cells.injEq] at h
    exact hT h.2.1.symm)).trans h
structure RHn (w0 w W : World) (R : WB) (V : WV) (xr : RS) (b : Nat) (way : List (Int × Int × Int)) (vw : Value) (cs : Array Value) : Prop where
  rd : RD w0 W R V xr
  low : w0.heap.size ≤ b
  blk : W.heap[b]? = some (.cells cs 212 (0, 0))
  own : W.ownsRow w0.heap.size 71 3 vw way.length (flat3 way)
  fr : FR [b] w W
section
variable {w0 w W W' : World} {R : WB} {V : WV} {xr xr' : RS} {b : Nat} {way : List (Int × Int × Int)} {vw : Value} {cs : Array Value}
theorem RHn.below (h : RHn w0 w W R V xr b way vw cs) (hb : Below W.heap.size W W') : RHn w0 w W' R V xr b way vw cs := ⟨h.rd.keep hb, h.low, (hb.block _ (Array.getElem?_eq_some_iff.1 h.blk).1).trans h.blk, own_fr h.own (below_fr hb (fun _ => false) false) rfl, h.fr.trans (fR_below hb)⟩
theorem RHn.move (h : RHn w0 w W R V xr b way vw cs) (h2 : RD w0 W' R V xr') (hf : Fr rTy false W W') : RHn w0 w W' R V xr' b way vw cs := ⟨h2, h.low, hf.cells _ _ _ _ h.blk rfl, own_fr h.own hf rfl, h.fr.trans (fR_fr hf)⟩
theorem RHn.set (h : RHn w0 w W R V xr b way vw cs) (o : Nat) (v : Value) : RHn w0 w (W.setCell ⟨b, o, none⟩ v) R V xr b way vw (cs.setIfInBounds o v) :=
  ⟨rd_kp h.rd (setCell_keeps W b o v) h.blk rfl h.low, h.low, setCell_same h.blk o v, own_fr h.own (set_ty h.blk o v) rfl, h.fr.trans (fR_fx (kp_fx (setCell_keeps W b o v)) (fun _ _ => rfl) (by simp) h.blk)⟩
theorem RHn.dset (h : RHn w0 w W R V xr b way vw cs) {lo q : Nat} {d : Dg} (hd : RDgAt W lo q d) (o : Nat) (v : Value) : RDgAt (W.setCell ⟨b, o, none⟩ v) lo q d := hd.fr (set_ty h.blk o v) rfl rfl rfl
end
abbrev TP17 (tb b : Nat) (q0 q1 q2 tag : Int) (W : World) : Prop := TS17 tb q0 q1 q2 W ∧ W.cell? ⟨b, 3, none⟩ = some (.int .i64 tag)
set_option maxRecDepth 10000 in
set_option maxHeartbeats 8000000 in
theorem rhpstep2 {w0 w : World} {R : WB} {V : WV} {xr : RS} {s : CS} {b k : Nat} {x : HP} {b0 b1 b2 q0 q1 q2 : Int} (h : RD w0 w R V xr) (hr : xr.room) (hv : s.val = rlook xr.l) (hx : RHopsAt w w0.heap.size b x []) (hk : x.left = k + 1) (hp : x.way[k]? = some (b0, b1, b2)) (hq : x.way[k + 1]? = some (q0, q1, q2)) (hps : (Lit.int .i64 b2).wf = true) (hqs : (Lit.int .i64 q2).wf = true) (hld : x.load = true) :
    Calls Tryz.prog 117 #[.pointer (some ⟨b, 0, none⟩), .pointer (some ⟨R.wb, 0, none⟩)] w fun e w' => e = .returned (.tuple #[]) ∧ RHPost w0 w R V (x.nextR s xr) b (x.next s).2 [] w' := by
  have hm := hx.m
  have hl0 : x.left ≠ 0 := by omega
  have hle : x.l = [] := hx.eq
  have hrl : x.rln = 2 := by unfold HP.rln; rw [if_neg hl0, if_pos hle, hld]; rfl
  rw [hrl] at hm
  have hlt := hx.lt
  have hfew := hm.few
  obtain ⟨v, hvv⟩ : ∃ v, v = s.val (itemA b0 b1 b2) := ⟨_, rfl⟩
  obtain ⟨rf, hrf⟩ : ∃ rf, rf = wrap64 v := ⟨_, rfl⟩
  have hrf2 : rf < 9223372036854775808 := by rw [hrf]; exact wrap64_lt v
  obtain ⟨xs, hxs⟩ : ∃ xs, xs = vof [(b0, b1), (q0, q1)] := ⟨_, rfl⟩
  have e2 : x.nextR s xr = xr.acc 1 (itemA b0 b1 b2) v := by unfold HP.nextR; rw [hle, show x.left - 1 = k by omega, hp]; simp only; rw [hld, if_neg (by decide), ← hvv]
  have e3 : (x.next s).2 = ({ x with l := [.mark xs, .out (sof b0 b1 b2), hsput (q0, q1, q2) x.tag rf, .mark xs] } : HP).on := by unfold HP.next; rw [hle, show x.left - 1 = k by omega, hp, hk, hq]; simp only; rw [hld, if_neg (by decide), ← hvv, ← hrf, hxs]; rfl
  obtain ⟨g0, cap, y2, z0, z1, z2⟩ := hm.spot k _ hp
  obtain ⟨c0, c1, c3⟩ := hm.c
  rw [show (x.left : Int) - 1 = (k : Int) by omega] at c1
  simp only at z0 z1 z2
  obtain ⟨vw, p0, p1, p2, p3, gg, gown, -⟩ := hm.ex
  rw [show (x.left : Int) - 1 = (k : Int) by omega] at gg
  obtain rfl : vw = .slice (some ⟨g0, 0, none⟩) x.way.length cap := by
    have e := hcell gg 2
    rw [y2] at e
    exact (Option.some.inj e).symm
  have hn : RHn w0 w w R V xr b x.way (.slice (some ⟨g0, 0, none⟩) x.way.length cap) _ := ⟨h, hm.low, gg, gown, FR.refl _ _⟩
  obtain ⟨k1, hk1⟩ : ∃ k1, k1 = k + 1 := ⟨_, rfl⟩
  rw [← hk1] at hq
  have i0 : (0 : Int) ≤ k := by omega
  have i1 : (k : Int) < x.way.length := by omega
  have j0 : (0 : Int) ≤ k1 := by omega
  have j1 : (k1 : Int) < x.way.length := by omega
  have e9 : wrap64 ((k : Int) + 1) = (k1 : Int) := by rw [IntWalk.wrap64_in _ (by omega), hk1]; push_cast; rfl
  have al : ∀ (o : Obj) {q j : Nat} {u : Value}, w.cell? ⟨q, j, none⟩ = some u → (w.alloc o).cell? ⟨q, j, none⟩ = some u := fun o q j u hu => by rw [World.cell?_alloc_past _ _ _ (World.block_lt_of_cell? _ _ hu)]; exact hu
  have y2' := fun o => al o y2
  have c1' := fun o => al o c1
  have z0' := fun o => al o z0
  have z1' := fun o => al o z1
  have z2' := fun o => al o z2
  have hIT := fun W => ritem_any b0 b1 b2 hps W
  obtain ⟨A, hA⟩ : ∃ A, A = itemA b0 b1 b2 := ⟨_, rfl⟩
  have hAw : (Lit.int .u64 A).wf = true := by rw [hA]; exact itemA_wf _ _ _
  rw [← hA] at hIT hvv e2
  have hld2 := fun W (hW : Below w.heap.size w W) => rwload (h.keep hW) hr A hAw
  rw [← hv, ← hvv] at hld2
  have HK : Hid ((0 : Int) ≤ (x.left : Int) - 1 ∧ (x.left : Int) - 1 < 1000000) := Lib.hid (by omega)
  rw [e2, e3]
  have HN := Lib.hid hn; have HC0 := Lib.hid c0; have HLD := Lib.hid hld2; have HL0 := Lib.hid hl0; have HLT := Lib.hid hlt; have HXS := Lib.hid hxs; have HRF := Lib.hid hrf; have HRF2 := Lib.hid hrf2; have HFEW := Lib.hid hfew; have HLOW := Lib.hid hm.low; have HKE := Lib.hid (show (x.left : Int) - 1 = (k : Int) by omega)
  have HQ := Lib.hid hq
  clear h hr hv hx hl0 hm hle hrl hlt hfew hp hq al e2 e3 hk hvv hA hAw hld2 hld hn gg gown hxs hrf hrf2 hk1 c3
  go_enter Tryz.func117, Tryz.ntmps117
  go_upto_region 1 with (fail)
  clear c0
  go_region
  go_upto_region 2 with (fail)
  have kA := (below_alloc w (.cells #[.int .i64 b0, .int .i64 b1, .int .i64 b2] 71)).drew
  have n1 : (w.alloc (.cells #[.int .i64 b0, .int .i64 b1, .int .i64 b2] 71)).drew.heap[w.heap.size]? = some (.cells #[.int .i64 b0, .int .i64 b1, .int .i64 b2] 71 (0, 0)) := heap_alloc_new w _
  have HN2 := Lib.hid (HN.out.below kA); have K2 := Lib.hid kA; have N2 := Lib.hid n1
  have c0 : (w.alloc (.cells #[.int .i64 b0, .int .i64 b1, .int .i64 b2] 71)).drew.cell? ⟨b, 0, none⟩ = some (.int .i64 2) := (kA.cell (World.block_lt_of_cell? _ _ HC0.out)).trans HC0.out
  clear c1 y2 z0 z1 z2 c1' y2' z0' z1' z2' i0 i1 kA n1 HN
  generalize (w.alloc (.cells #[.int .i64 b0, .int .i64 b1, .int .i64 b2] 71)).drew = w2 at *
  obtain ⟨nb, hnb⟩ : ∃ nb, nb = w.heap.size := ⟨_, rfl⟩
  rw [← hnb] at N2
  try simp only [← hnb]
  clear hnb
  go_upto_region 7 with (fail)
  clear c0
  obtain ⟨r0, r1, r2⟩ := ts17_of N2.out
  go_upto_region 8 with (first
    | (go_at_call 89; refine (hIT _).mono ?_; intro e w3 hh; obtain ⟨hh1, b3⟩ := hh; subst hh1; have HN3 := Lib.hid (HN2.out.below b3); have N3 := Lib.hid ((b3.block _ (Array.getElem?_eq_some_iff.1 N2.out).1).trans N2.out); have K3 := Lib.hid (K2.out.trans (b3.mono K2.out.size)); have hl3 := HLD.out w3 K3.out; clear b3 hIT r0 r1 r2)
    | (go_at_call 55; refine hl3.mono ?_; intro e w4 hh; obtain ⟨hh1, h4, f4⟩ := hh; subst hh1; have HN4 := Lib.hid (HN3.out.move h4 f4); have N4 := Lib.hid (f4.cells _ _ _ _ N3.out rfl); have F4 := Lib.hid f4; clear h4 f4 hl3))
  (first | rw [IntWalk.i64_left v] | skip)
  rw [← HRF.out]
  obtain ⟨t0, t1, t2, -⟩ := own_cell3 HN4.out.own k1 _ HQ.out
  have y2 := hcell HN4.out.blk 2
  have c1 := hcell HN4.out.blk 1
  have y2 : w4.cell? ⟨b, 2, none⟩ = some (.slice (some ⟨g0, 0, none⟩) x.way.length cap) := y2
  have c1 : w4.cell? ⟨b, 1, none⟩ = some (.int .i64 k) := c1
  simp only at t0 t1 t2
  have al : ∀ (o : Obj) {q j : Nat} {u : Value}, w4.cell? ⟨q, j, none⟩ = some u → (w4.alloc o).cell? ⟨q, j, none⟩ = some u := fun o q j u hu => by rw [World.cell?_alloc_past _ _ _ (World.block_lt_of_cell? _ _ hu)]; exact hu
  have y2' := fun o => al o y2
  have c1' := fun o => al o c1
  have t0' := fun o => al o t0
  have t1' := fun o => al o t1
  have t2' := fun o => al o t2
  clear al
  go_region
  go_upto_region 9 with (fail)
  have kA := (below_alloc w4 (.cells #[.int .i64 q0, .int .i64 q1, .int .i64 q2] 71)).drew
  have n1 : (w4.alloc (.cells #[.int .i64 q0, .int .i64 q1, .int .i64 q2] 71)).drew.heap[w4.heap.size]? = some (.cells #[.int .i64 q0, .int .i64 q1, .int .i64 q2] 71 (0, 0)) := heap_alloc_new w4 _
  have HN5 := Lib.hid (HN4.out.below kA); have M5 := Lib.hid n1; have N5 := Lib.hid ((kA.block _ (Array.getElem?_eq_some_iff.1 N4.out).1).trans N4.out)
  clear c1 y2 t0 t1 t2 c1' y2' t0' t1' t2' j0 j1 e9 kA n1
  generalize (w4.alloc (.cells #[.int .i64 q0, .int .i64 q1, .int .i64 q2] 71)).drew = w5 at *
  obtain ⟨tb, htb⟩ : ∃ tb, tb = w4.heap.size := ⟨_, rfl⟩
  rw [← htb] at M5
  try simp only [← htb]
  clear htb
  obtain ⟨r0, r1, r2⟩ := ts17_of N5.out
  obtain ⟨u0, u1, u2⟩ := ts17_of M5.out
  go_upto_region 10 with (fail)
  have kA := below_alloc w5 (.cells #[.int .i64 b0, .int .i64 b1, .int .i64 q0, .int .i64 q1] 69)
  have n1 := heap_alloc_new w5 (.cells #[.int .i64 b0, .int .i64 b1, .int .i64 q0, .int .i64 q1] 69)
  have HN6 := Lib.hid (HN5.out.below kA); have M6 := Lib.hid ((kA.block _ (Array.getElem?_eq_some_iff.1 M5.out).1).trans M5.out); have N6 := Lib.hid ((kA.block _ (Array.getElem?_eq_some_iff.1 N5.out).1).trans N5.out); have PL6 := Lib.hid n1
  change Code.wp _ _ _ _ (w5.alloc (.cells #[.int .i64 b0, .int .i64 b1, .int .i64 q0, .int .i64 q1] 69))
  clear r0 r1 r2 u0 u1 u2 kA n1
  generalize w5.alloc (.cells #[.int .i64 b0, .int .i64 b1, .int .i64 q0, .int .i64 q1] 69) = w6 at *
  obtain ⟨pb, hpb⟩ : ∃ pb, pb = w5.heap.size := ⟨_, rfl⟩
  rw [← hpb] at PL6
  try simp only [← hpb]
  clear hpb
  -- the first mark
  have kd : Below w6.heap.size w6 w6.drew := (Below.refl _ _).drew
  have HNd := Lib.hid (HN6.out.below kd); have Nd : Hid (w6.drew.heap[nb]? = _) := N6.out; have Md : Hid (w6.drew.heap[tb]? = _) := M6.out
  have hnm := rnewmark_any [(b0, b1), (q0, q1)] (some ⟨pb, 0, none⟩) 2 w6.drew (plc_blk2 (show w6.drew.heap[pb]? = _ from PL6.out)) (by simp)
  rw [← HXS.out] at hnm
  have s3 : TS17 nb b0 b1 b2 w6.drew := ts17_of Nd.out
  clear kd
  go_region_held2 (fun W => TS17 nb b0 b1 b2 W) (assumption) (first
    | (go_at_call 169; refine hnm.mono ?_; intro e w7 hh; obtain ⟨m0, hh1, hm0, hl0, b7⟩ := hh; subst hh1; have HN7 := Lib.hid (HNd.out.below b7); have N7 := Lib.hid ((b7.block _ (Array.getElem?_eq_some_iff.1 Nd.out).1).trans Nd.out); have M7 := Lib.hid ((b7.block _ (Array.getElem?_eq_some_iff.1 Md.out).1).trans Md.out); have D7 := Lib.hid (show RDgAt w7 w0.heap.size m0 (.mark xs) by (rw [HXS.out]; rw [HXS.out] at hm0; exact rdg_new_mark hm0 HNd.out.rd.below.size hl0 (by simp))); have PL7 := Lib.hid ((b7.block _ (Array.getElem?_eq_some_iff.1 (show w6.drew.heap[pb]? = _ from PL6.out)).1).trans (show w6.drew.heap[pb]? = _ from PL6.out)); have c4 := hcell HN7.out.blk 4; have f4 := hfrz HN7.out.blk 4; have s7 : TS17 nb b0 b1 b2 w7 := ts17_of N7.out; have s8 : TS17 nb b0 b1 b2 (w7.setCell ⟨b, 4, none⟩ (.pointer (some ⟨m0, 0, none⟩))) := ts17_of (ts17_set N7.out HN7.out.blk (by decide) _ _); have G7 := Lib.hid (show w6.heap.size ≤ m0 from hl0); clear hm0 hl0 b7 hnm s3))
  have HN8 := Lib.hid (HN7.out.set 4 (.pointer (some ⟨m0, 0, none⟩)))
  have D8 := Lib.hid (HN7.out.dset D7.out 4 (.pointer (some ⟨m0, 0, none⟩)))
  have N8 := Lib.hid (blk_set N7.out HN7.out.blk (by decide) 4 (.pointer (some ⟨m0, 0, none⟩)))
  have M8 := Lib.hid (blk_set M7.out HN7.out.blk (by decide) 4 (.pointer (some ⟨m0, 0, none⟩)))
  have PL8 := Lib.hid (blk_set PL7.out HN7.out.blk (by decide) 4 (.pointer (some ⟨m0, 0, none⟩)))
  clear c4 f4 s7 s8 HN7 D7 N7 M7 PL7
  go_upto_region 11 with (fail)
  generalize w7.setCell ⟨b, 4, none⟩ (.pointer (some ⟨m0, 0, none⟩)) = w8 at *
  -- the second mark
  have kd : Below w8.heap.size w8 w8.drew := (Below.refl _ _).drew
  have HNe := Lib.hid (HN8.out.below kd); have Ne : Hid (w8.drew.heap[nb]? = _) := N8.out; have Me : Hid (w8.drew.heap[tb]? = _) := M8.out; have De := Lib.hid (D8.out.below kd)
  have hnm := rnewmark_any [(b0, b1), (q0, q1)] (some ⟨pb, 0, none⟩) 2 w8.drew (plc_blk2 (show w8.drew.heap[pb]? = _ from PL8.out)) (by simp)
  rw [← HXS.out] at hnm
  have s3 : TS17 nb b0 b1 b2 w8.drew := ts17_of Ne.out
  have GL := Lib.hid (show m0 < w8.heap.size from D8.out.lt)
  clear kd
  go_region_held2 (fun W => TS17 nb b0 b1 b2 W) (assumption) (first
    | (go_at_call 169; refine hnm.mono ?_; intro e w9 hh; obtain ⟨m1, hh1, hm0, hl0, b7⟩ := hh; subst hh1; have HN9 := Lib.hid (HNe.out.below b7); have N9 := Lib.hid ((b7.block _ (Array.getElem?_eq_some_iff.1 Ne.out).1).trans Ne.out); have M9 := Lib.hid ((b7.block _ (Array.getElem?_eq_some_iff.1 Me.out).1).trans Me.out); have D9 := Lib.hid (De.out.below b7); have E9 := Lib.hid (show RDgAt w9 w0.heap.size m1 (.mark xs) by (rw [HXS.out]; rw [HXS.out] at hm0; exact rdg_new_mark hm0 HNe.out.rd.below.size hl0 (by simp))); have c5 := hcell HN9.out.blk 5; have f5 := hfrz HN9.out.blk 5; have s7 : TS17 nb b0 b1 b2 w9 := ts17_of N9.out; have s8 : TS17 nb b0 b1 b2 (w9.setCell ⟨b, 5, none⟩ (.pointer (some ⟨m1, 0, none⟩))) := ts17_of (ts17_set N9.out HN9.out.blk (by decide) _ _); have G9 := Lib.hid (show w8.heap.size ≤ m1 from hl0); clear hm0 hl0 b7 hnm s3))
  have HN10 := Lib.hid (HN9.out.set 5 (.pointer (some ⟨m1, 0, none⟩)))
  have D10 := Lib.hid (HN9.out.dset D9.out 5 (.pointer (some ⟨m1, 0, none⟩)))
  have E10 := Lib.hid (HN9.out.dset E9.out 5 (.pointer (some ⟨m1, 0, none⟩)))
  have N10 := Lib.hid (blk_set N9.out HN9.out.blk (by decide) 5 (.pointer (some ⟨m1, 0, none⟩)))
  have M10 := Lib.hid (blk_set M9.out HN9.out.blk (by decide) 5 (.pointer (some ⟨m1, 0, none⟩)))
  clear c5 f5 s7 s8 HN9 D9 E9 N9 M9 HN8 D8 N8 M8 PL8 HNe Ne Me De
  go_upto_region 12 with (fail)
  generalize w9.setCell ⟨b, 5, none⟩ (.pointer (some ⟨m1, 0, none⟩)) = w10 at *
  -- what takes the item out
  have hno := fun W => rbout b0 b1 b2 hps W
  obtain ⟨r0, r1, r2⟩ := ts17_of N10.out
  have GM := Lib.hid (show m1 < w10.heap.size from E10.out.lt)
  go_upto_region 13 with (go_at_call 170; refine (hno _).mono ?_; intro e w11 hh; obtain ⟨ob, hh1, hO, hl0, b7⟩ := hh; subst hh1; have HN11 := Lib.hid (HN10.out.below b7); have M11 := Lib.hid ((b7.block _ (Array.getElem?_eq_some_iff.1 M10.out).1).trans M10.out); have D11 := Lib.hid (D10.out.below b7); have E11 := Lib.hid (E10.out.below b7); have O11 := Lib.hid (rdg_new_out (lo := w0.heap.size) hO hps (Nat.le_trans HN10.out.rd.below.size hl0)); have G11 := Lib.hid (show w10.heap.size ≤ ob from hl0); have c6 := hcell HN11.out.blk 6; have f6 := hfrz HN11.out.blk 6; clear hO hl0 b7 hno r0 r1 r2)
  have HN12 := Lib.hid (HN11.out.set 6 (.pointer (some ⟨ob, 0, none⟩)))
  have D12 := Lib.hid (HN11.out.dset D11.out 6 (.pointer (some ⟨ob, 0, none⟩)))
  have E12 := Lib.hid (HN11.out.dset E11.out 6 (.pointer (some ⟨ob, 0, none⟩)))
  have O12 := Lib.hid (HN11.out.dset O11.out 6 (.pointer (some ⟨ob, 0, none⟩)))
  have M12 := Lib.hid (blk_set M11.out HN11.out.blk (by decide) 6 (.pointer (some ⟨ob, 0, none⟩)))
  clear c6 f6 HN11 D11 E11 O11 M11 HN10 D10 E10 N10 M10
  generalize w11.setCell ⟨b, 6, none⟩ (.pointer (some ⟨ob, 0, none⟩)) = w12 at *
  -- what puts it
  have kd : Below w12.heap.size w12 w12.drew := (Below.refl _ _).drew
  have HNf := Lib.hid (HN12.out.below kd); have Mf : Hid (w12.drew.heap[tb]? = _) := M12.out; have Df := Lib.hid (D12.out.below kd); have Ef := Lib.hid (E12.out.below kd); have Of := Lib.hid (O12.out.below kd)
  have hnp := fun W => rbput q0 q1 q2 x.tag rf hqs W
  have GO := Lib.hid (show ob < w12.heap.size from O12.out.lt)
  have s3 : TP17 tb b q0 q1 q2 x.tag w12.drew := ⟨ts17_of Mf.out, hcell HNf.out.blk 3⟩
  clear kd
  go_region_held2 (fun W => TP17 tb b q0 q1 q2 x.tag W) (assumption) (first
    | (go_at_call 171; refine (hnp _).mono ?_; intro e w13 hh; obtain ⟨ub, hh1, hO, hl0, b7⟩ := hh; subst hh1; have HN13 := Lib.hid (HNf.out.below b7); have M13 := Lib.hid ((b7.block _ (Array.getElem?_eq_some_iff.1 Mf.out).1).trans Mf.out); have D13 := Lib.hid (Df.out.below b7); have E13 := Lib.hid (Ef.out.below b7); have O13 := Lib.hid (Of.out.below b7); have U13 := Lib.hid (rdg_new_put (lo := w0.heap.size) hO hqs (Nat.le_trans HNf.out.rd.below.size hl0)); have G13 := Lib.hid (show w12.heap.size ≤ ub from hl0); have c7 := hcell HN13.out.blk 7; have f7 := hfrz HN13.out.blk 7; have s7 : TP17 tb b q0 q1 q2 x.tag w13 := ⟨ts17_of M13.out, hcell HN13.out.blk 3⟩; have s8 : TP17 tb b q0 q1 q2 x.tag (w13.setCell ⟨b, 7, none⟩ (.pointer (some ⟨ub, 0, none⟩))) := ⟨ts17_of (ts17_set M13.out HN13.out.blk (by decide) _ _), hcell (HN13.out.set 7 (.pointer (some ⟨ub, 0, none⟩))).blk 3⟩; clear hO hl0 b7 hnp s3))
  have HN14 := Lib.hid (HN13.out.set 7 (.pointer (some ⟨ub, 0, none⟩)))
  have D14 := Lib.hid (HN13.out.dset D13.out 7 (.pointer (some ⟨ub, 0, none⟩)))
  have E14 := Lib.hid (HN13.out.dset E13.out 7 (.pointer (some ⟨ub, 0, none⟩)))
  have O14 := Lib.hid (HN13.out.dset O13.out 7 (.pointer (some ⟨ub, 0, none⟩)))
  have U14 := Lib.hid (HN13.out.dset U13.out 7 (.pointer (some ⟨ub, 0, none⟩)))
  clear c7 f7 s7 s8 HN13 D13 E13 O13 U13 M13 HN12 D12 E12 O12 M12 HNf Mf Df Ef Of
  go_upto_region 14 with (fail)
  generalize w13.setCell ⟨b, 7, none⟩ (.pointer (some ⟨ub, 0, none⟩)) = w14 at *
  have c0 := hcell HN14.out.blk 0
  have f0 := hfrz HN14.out.blk 0
  have HN15 := Lib.hid (HN14.out.set 0 (.int .i64 3))
  have D15 := Lib.hid (HN14.out.dset D14.out 0 (.int .i64 3))
  have E15 := Lib.hid (HN14.out.dset E14.out 0 (.int .i64 3))
  have O15 := Lib.hid (HN14.out.dset O14.out 0 (.int .i64 3))
  have U15 := Lib.hid (HN14.out.dset U14.out 0 (.int .i64 3))
  go_upto_region 23 with (fail)
  clear c0 f0 HN14 D14 E14 O14 U14
  generalize w14.setCell ⟨b, 0, none⟩ (.int .i64 3) = w15 at *
  have hmk : ∀ a ∈ xs, (Lit.int .u64 a).wf = true := by rw [HXS.out]; exact vof_wf
  have HM : Hid (RHm w15 w0.heap.size b 3 ((x.left : Int) - 1) x.way x.tag [(m0, .mark xs), (ob, .out (sof b0 b1 b2)), (ub, hsput (q0, q1, q2) x.tag rf), (m1, .mark xs)]) := Lib.hid (by
    have hkd : (hsput (q0, q1, q2) x.tag rf).kind = 2 := by unfold hsput; split <;> rfl
    refine ⟨HLOW.out, HFEW.out, by simp, ⟨_, some ⟨m0, 0, none⟩, some ⟨ob, 0, none⟩, some ⟨ub, 0, none⟩, some ⟨m1, 0, none⟩, by rw [HKE.out]; exact HN15.out.blk, HN15.out.own, rfl⟩, ?_, ?_, ?_⟩
    · simp only [List.map_cons, List.map_nil, hkd]; rfl
    · intro q hq
      simp only [List.mem_cons, List.not_mem_nil, or_false] at hq
      rcases hq with rfl | rfl | rfl | rfl
      · exact ⟨D15.out, hmk⟩
      · exact ⟨O15.out, sof_ok _ _ _⟩
      · exact ⟨U15.out, hsput_ok _ _ _ HRF2.out⟩
      · exact ⟨E15.out, hmk⟩
    · have g1 := G9.out; have g2 := GL.out; have g3 := GM.out; have g4 := G11.out; have g5 := GO.out; have g6 := G13.out
      simp only [List.map_cons, List.map_nil, List.nodup_cons, List.mem_cons, List.not_mem_nil, or_false, not_or, not_false_eq_true, List.nodup_nil, and_true]
      have h1 : w8.heap.size ≤ m1 := g1
      have h2 : m0 < w8.heap.size := g2
      have h3 : m1 < w10.heap.size := g3
      have h4 : w10.heap.size ≤ ob := g4
      have h5 : ob < w12.heap.size := g5
      have h6 : w12.heap.size ≤ ub := g6
      omega)
  have hon := rhpon4 _ _ _ _ _ _ _ _ HM.out HK.out
  go_wp2_with (go_at_call 174; refine hon.mono ?_; intro e w16 hh; obtain ⟨hh1, h4⟩ := hh; subst hh1; have P4 := Lib.hid h4; clear h4 hon)
  go_end0
  refine ⟨rfl, _, rd_kp HN15.out.rd P4.out.2 HN15.out.blk rfl HLOW.out, rhp_on (x := { x with l := [.mark xs, .out (sof b0 b1 b2), hsput (q0, q1, q2) x.tag rf, .mark xs] }) HL0.out HLT.out rfl P4.out, ?_, ?_⟩
  · exact HN15.out.fr.trans (fR_fx (kp_fx P4.out.2) (fun _ _ => rfl) (by simp) HN15.out.blk)
  · intro y hy
    right
    have hy2 := (List.dropWhile_sublist _).subset hy
    have h0 : w6.heap.size ≤ m0 := G7.out
    have hw : w.heap.size ≤ w6.heap.size := HN6.out.fr.size
    have h1 : w8.heap.size ≤ m1 := G9.out
    have h2 : m0 < w8.heap.size := GL.out
    have h3 : m1 < w10.heap.size := GM.out
    have h4 : w10.heap.size ≤ ob := G11.out
    have h5 : ob < w12.heap.size := GO.out
    have h6 : w12.heap.size ≤ ub := G13.out
    simp only [List.mem_cons, List.not_mem_nil, or_false] at hy2
    rcases hy2 with rfl | rfl | rfl | rfl
    · show w.heap.size ≤ m0; omega
    · show w.heap.size ≤ ob; omega
    · show w.heap.size ≤ ub; omega
    · show w.heap.size ≤ m1; omega
end Go.Proofs.YtmakjfeepmiggaaGreat