import Derived.Test.YtmakjfeepmiggaaGreatZ39
import Derived.Test.YtmakjfeepmiggaaGreatZ35
namespace Go.Proofs.YtmakjfeepmiggaaGreat
open Go.RowKit Go.Maps TagPure
set_option linter.unusedVariables false
section
variable {w0 w : World} {R : WB} {V : WV} {xr : RS} {b : Nat} {x : RR}
set_option maxRecDepth 10000 in
set_option maxHeartbeats 2000000 in
theorem rrstep0 (hx : RRoomAt w w0.heap.size b x) (h0 : x.line = 0) (u : Value) : Calls Tryz.prog 36 #[.pointer (some ⟨b, 0, none⟩), u] w fun e w' => e = .returned (.tuple #[]) ∧ w' = w := by
  have c0 := hx.c.1
  rw [h0] at c0
  clear hx h0
  go_enter Tryz.func36, Tryz.ntmps36
  go_wp2
  go_end0
  exact ⟨rfl, rfl⟩
set_option maxRecDepth 10000 in
set_option maxHeartbeats 4000000 in
theorem rrstep1f (h : RD w0 w R V xr) (hr : xr.room) (hx : RRoomAt w w0.heap.size b x) (h1 : x.line = 1) (v : Int) (hv : v = rlook xr.l (tagsA x.bits x.a)) (hvb : 0 ≤ v ∧ v < 18446744073709551616) (hf : frW v ≠ -1) :
    Calls Tryz.prog 36 #[.pointer (some ⟨b, 0, none⟩), .pointer (some ⟨R.wb, 0, none⟩)] w fun e w' => e = .returned (.tuple #[]) ∧ RRB w0 w w' R V (xr.acc 1 (tagsA x.bits x.a) v) b (x.free x.a v) := by
  have hB : RRB w0 w w R V xr b x := ⟨h, hx, (below_fr (Below.refl _ _) rTy false).fx b⟩
  have hfr := rrfree hB hr x.a v hv hvb
  rw [decide_eq_false hf] at hfr
  obtain ⟨c0, -, c2, -⟩ := hx.c
  rw [h1] at c0
  obtain ⟨xr2, hxr⟩ : ∃ xr2, xr2 = xr.acc 1 (tagsA x.bits x.a) v := ⟨_, rfl⟩
  obtain ⟨y, hy⟩ : ∃ y, y = x.free x.a v := ⟨_, rfl⟩
  rw [← hxr, ← hy] at hfr ⊢
  clear hB h hr hx h1 hv hvb hf hxr hy
  go_enter Tryz.func36, Tryz.ntmps36
  go_wp2_with (go_at_call 114; refine hfr.mono ?_; intro e w2 hh; obtain ⟨hh1, h2⟩ := hh; subst hh1; have HB2 := Lib.hid h2; clear h2 hfr c0 c2)
  go_end0
  exact ⟨rfl, HB2.out⟩
set_option maxRecDepth 10000 in
set_option maxHeartbeats 4000000 in
theorem rrstep2f (h : RD w0 w R V xr) (hr : xr.room) (hx : RRoomAt w w0.heap.size b x) (h1 : x.line = 2) (v : Int) (hv : v = rlook xr.l (tagsA x.bits x.b)) (hvb : 0 ≤ v ∧ v < 18446744073709551616) (hf : frW v ≠ -1) :
    Calls Tryz.prog 36 #[.pointer (some ⟨b, 0, none⟩), .pointer (some ⟨R.wb, 0, none⟩)] w fun e w' => e = .returned (.tuple #[]) ∧ RRB w0 w w' R V (xr.acc 1 (tagsA x.bits x.b) v) b (x.free x.b v) := by
  have hB : RRB w0 w w R V xr b x := ⟨h, hx, (below_fr (Below.refl _ _) rTy false).fx b⟩
  have hfr := rrfree hB hr x.b v hv hvb
  rw [decide_eq_false hf] at hfr
  obtain ⟨c0, -, -, c3, -⟩ := hx.c
  rw [h1] at c0
  obtain ⟨xr2, hxr⟩ : ∃ xr2, xr2 = xr.acc 1 (tagsA x.bits x.b) v := ⟨_, rfl⟩
  obtain ⟨y, hy⟩ : ∃ y, y = x.free x.b v := ⟨_, rfl⟩
  rw [← hxr, ← hy] at hfr ⊢
  clear hB h hr hx h1 hv hvb hf hxr hy
  go_enter Tryz.func36, Tryz.ntmps36
  go_wp2_with (go_at_call 114; refine hfr.mono ?_; intro e w2 hh; obtain ⟨hh1, h2⟩ := hh; subst hh1; have HB2 := Lib.hid h2; clear h2 hfr c0 c3)
  go_end0
  exact ⟨rfl, HB2.out⟩
theorem rr_free_no {c v : Int} (hf : frW v = -1) : x.free c v = x := by unfold RR.free; rw [if_pos hf]
set_option maxRecDepth 10000 in
set_option maxHeartbeats 4000000 in
theorem rrstep1n (h : RD w0 w R V xr) (hr : xr.room) (hx : RRoomAt w w0.heap.size b x) (h1 : x.line = 1) (v : Int) (hv : v = rlook xr.l (tagsA x.bits x.a)) (hvb : 0 ≤ v ∧ v < 18446744073709551616) (hf : frW v = -1) (hab : x.b ≠ x.a) :
    Calls Tryz.prog 36 #[.pointer (some ⟨b, 0, none⟩), .pointer (some ⟨R.wb, 0, none⟩)] w fun e w' => e = .returned (.tuple #[]) ∧ RRB w0 w w' R V (xr.acc 1 (tagsA x.bits x.a) v) b { x with line := 2 } := by
  have hB : RRB w0 w w R V xr b x := ⟨h, hx, (below_fr (Below.refl _ _) rTy false).fx b⟩
  have hfr := rrfree hB hr x.a v hv hvb
  rw [decide_eq_true hf, rr_free_no hf] at hfr
  obtain ⟨c0, -, c2, -⟩ := hx.c
  rw [h1] at c0
  obtain ⟨xr2, hxr⟩ : ∃ xr2, xr2 = xr.acc 1 (tagsA x.bits x.a) v := ⟨_, rfl⟩
  rw [← hxr] at hfr ⊢
  have dab : (x.b == x.a) = false := beq_eq_false_iff_ne.2 hab
  clear hB h hr hx h1 hv hvb hf hxr hab
  go_enter Tryz.func36, Tryz.ntmps36
  go_upto_region 3 with (go_at_call 114; refine hfr.mono ?_; intro e w2 hh; obtain ⟨hh1, h2⟩ := hh; subst hh1; have HB2 := Lib.hid h2; clear h2 hfr c0 c2)
  have c0 := HB2.out.rm.c.1
  have f0 := HB2.out.rm.f 0
  have HB3 := Lib.hid (HB2.out.set (y := { x with line := 2 }) 0 (.int .i64 2) rfl)
  go_upto_region 4 with (fail)
  clear c0 f0 HB2
  generalize w2.setCell ⟨b, 0, none⟩ (.int .i64 2) = w3 at *
  obtain ⟨-, -, c2, c3, -⟩ := HB3.out.rm.c
  have c2 : w3.cell? ⟨b, 2, none⟩ = some (.int .i64 x.a) := c2
  have c3 : w3.cell? ⟨b, 3, none⟩ = some (.int .i64 x.b) := c3
  have y2 := fun st : ExtW w3 => st.cell c2
  have y3 := fun st : ExtW w3 => st.cell c3
  clear c2 c3
  refine wp_region_ext (by kernel_rfl) (by kernel_rfl) ?_
  repeat (go_big_quiet_step (fail))
  refine wpQuiet_nil ?_
  rintro W ⟨⟨W2, hW⟩, rfl⟩
  have HB4 := Lib.hid (HB3.out.below hW)
  clear y2 y3 hW
  go_wp2_with (fail)
  go_end0
  exact ⟨rfl, HB4.out⟩
set_option maxRecDepth 10000 in
set_option maxHeartbeats 4000000 in
theorem rrstep1s (kb m : Nat) (h : RD w0 w R V xr) (hr : xr.room) (hx : RRoomAt w w0.heap.size b x) (h1 : x.line = 1) (v : Int) (hv : v = rlook xr.l (tagsA x.bits x.a)) (hvb : 0 ≤ v ∧ v < 18446744073709551616) (hf : frW v = -1) (hab : x.b = x.a) (hok : (0 ≤ x.a ∧ x.a < tsize x.bits) ∧ 0 ≤ x.b ∧ x.b < tsize x.bits) :
    Calls Tryz.prog 36 #[.pointer (some ⟨b, 0, none⟩), .pointer (some ⟨R.wb, 0, none⟩)] w fun e w' => e = .returned (.tuple #[]) ∧ RSrch w0 w w' R V (xr.acc 1 (tagsA x.bits x.a) v) b x kb m := by
  have hB : RRB w0 w w R V xr b x := ⟨h, hx, (below_fr (Below.refl _ _) rTy false).fx b⟩
  have hfr := rrfree hB hr x.a v hv hvb
  rw [decide_eq_true hf, rr_free_no hf] at hfr
  obtain ⟨c0, -, c2, -⟩ := hx.c
  rw [h1] at c0
  obtain ⟨xr2, hxr⟩ : ∃ xr2, xr2 = xr.acc 1 (tagsA x.bits x.a) v := ⟨_, rfl⟩
  rw [← hxr] at hfr ⊢
  have dab : (x.b == x.a) = true := beq_iff_eq.2 hab
  have HOK := Lib.hid hok
  clear hB h hr hx h1 hv hvb hf hxr hab hok
  go_enter Tryz.func36, Tryz.ntmps36
  go_upto_region 3 with (go_at_call 114; refine hfr.mono ?_; intro e w2 hh; obtain ⟨hh1, h2⟩ := hh; subst hh1; have HB2 := Lib.hid h2; clear h2 hfr c0 c2)
  have c0 := HB2.out.rm.c.1
  have f0 := HB2.out.rm.f 0
  have HB3 := Lib.hid (HB2.out.set (y := { x with line := 2 }) 0 (.int .i64 2) rfl)
  go_upto_region 4 with (fail)
  clear c0 f0 HB2
  generalize w2.setCell ⟨b, 0, none⟩ (.int .i64 2) = w3 at *
  obtain ⟨-, -, c2, c3, -⟩ := HB3.out.rm.c
  have c2 : w3.cell? ⟨b, 2, none⟩ = some (.int .i64 x.a) := c2
  have c3 : w3.cell? ⟨b, 3, none⟩ = some (.int .i64 x.b) := c3
  have y2 := fun st : ExtW w3 => st.cell c2
  have y3 := fun st : ExtW w3 => st.cell c3
  clear c2 c3
  refine wp_region_ext (by kernel_rfl) (by kernel_rfl) ?_
  repeat (go_big_quiet_step (fail))
  refine wpQuiet_nil ?_
  rintro W ⟨⟨W2, hW⟩, rfl⟩
  have HB4 := Lib.hid (HB3.out.below hW)
  clear y2 y3 hW
  have hsr := rrsearch kb m HB4.out HOK.out
  go_wp2_with (go_at_call 115; refine hsr.mono ?_; intro e w5 hh; obtain ⟨hh1, h5⟩ := hh; subst hh1; have H5 := Lib.hid h5; clear h5 hsr)
  go_end0
  exact ⟨rfl, H5.out⟩
set_option maxRecDepth 10000 in
set_option maxHeartbeats 4000000 in
theorem rrstep2s (kb m : Nat) (h : RD w0 w R V xr) (hr : xr.room) (hx : RRoomAt w w0.heap.size b x) (h1 : x.line = 2) (v : Int) (hv : v = rlook xr.l (tagsA x.bits x.b)) (hvb : 0 ≤ v ∧ v < 18446744073709551616) (hf : frW v = -1) (hok : (0 ≤ x.a ∧ x.a < tsize x.bits) ∧ 0 ≤ x.b ∧ x.b < tsize x.bits) :
    Calls Tryz.prog 36 #[.pointer (some ⟨b, 0, none⟩), .pointer (some ⟨R.wb, 0, none⟩)] w fun e w' => e = .returned (.tuple #[]) ∧ RSrch w0 w w' R V (xr.acc 1 (tagsA x.bits x.b) v) b x kb m := by
  have hB : RRB w0 w w R V xr b x := ⟨h, hx, (below_fr (Below.refl _ _) rTy false).fx b⟩
  have hfr := rrfree hB hr x.b v hv hvb
  rw [decide_eq_true hf, rr_free_no hf] at hfr
  obtain ⟨c0, -, -, c3, -⟩ := hx.c
  rw [h1] at c0
  obtain ⟨xr2, hxr⟩ : ∃ xr2, xr2 = xr.acc 1 (tagsA x.bits x.b) v := ⟨_, rfl⟩
  rw [← hxr] at hfr ⊢
  have HOK := Lib.hid hok
  clear hB h hr hx h1 hv hvb hf hxr hok
  go_enter Tryz.func36, Tryz.ntmps36
  go_upto_region 8 with (go_at_call 114; refine hfr.mono ?_; intro e w2 hh; obtain ⟨hh1, h2⟩ := hh; subst hh1; have HB2 := Lib.hid h2; clear h2 hfr c0 c3)
  have hsr := rrsearch kb m HB2.out HOK.out
  go_wp2_with (go_at_call 115; refine hsr.mono ?_; intro e w5 hh; obtain ⟨hh1, h5⟩ := hh; subst hh1; have H5 := Lib.hid h5; clear h5 hsr)
  go_end0
  exact ⟨rfl, H5.out⟩
end
end Go.Proofs.YtmakjfeepmiggaaGreat
namespace Go.Proofs.YtmakjfeepmiggaaGreat
open Go.RowKit Go.Maps TagPure
set_option linter.unusedVariables false
def WY.nxt (x : WY) (v : Int) : WY := if (!x.made || x.over) = true then x else x.next v
theorem DPS.fm {w0 w w' : World} {B R : WB} {V : WV} {s s' : CS} {x x' : RS} {m m' : Nat} (h : DPS w0 w B R V s x m) (l : List (Nat × Array MapEntry × Nat)) (h2 : DPS w0 w' B R V s' x' m') (hp : Pr w0 w' B R { V with fm := l } s' x') : DPS w0 w' B R { V with fm := l } s' x' m' := ⟨hp, h2.far, h2.cok, h2.nn, h2.ni, h2.st, h2.nk⟩
theorem fz_fr {b c : Nat} {w w' : World} (h : Fz b c w w') {cb cc : Array Value} {T : TypeId} (hb : w.heap[b]? = some (.cells cb 56 (0, 0))) (hc : w.heap[c]? = some (.cells cc T (0, 0))) (hT : T = 56 ∨ T = 141) :
    Fr (fun X => rTy X || (X == 56 || X == 141)) false w w' := by
  refine ⟨h.size, fun k cs X fr hk hX => ?_, fun _ => h.map⟩
  simp only [Bool.or_eq_false_iff, beq_eq_false_iff_ne] at hX
  refine h.cells k cs X fr hk hX.1 (fun e => ?_) (fun e => ?_)
  · subst e; exact hX.2.1 (ocell_ty hk hb)
  · subst e
    have := ocell_ty hk hc
    rcases hT with e | e <;> rw [e] at this
    · exact hX.2.1 this
    · exact hX.2.2 this
structure WMid (w0 w : World) (B R : WB) (V : WV) (s : CS) (x : RS) (o : PO WPd) (w' : World) : Prop where
  ws : WS w0 w' B V s
  wx : WayAt w' w0.heap.size o.pb o.a.x
  fz : Fz o.rb o.a.kr w w'
  ex : ∃ kr', RD w0 w' R V (if (!o.a.x.made || o.a.x.over) = true then x else x.acc 1 (wyA o.a.x) (rlook x.l (wyA o.a.x))) ∧ RWayAt w' w0.heap.size o.rb kr' (o.a.x.nxt (rlook x.l (wyA o.a.x))) ∧ (kr' = o.a.kr ∨ w.heap.size ≤ kr')
section
variable {w0 w w1 : World} {B R : WB} {V : WV} {s : CS} {x : RS} {m : Nat} {o : PO WPd} {S : Nat → Prop}
end
end Go.Proofs.YtmakjfeepmiggaaGreat
namespace Go.Proofs.YtmakjfeepmiggaaGreat
open Go.RowKit Go.Maps TagPure
set_option linter.unusedVariables false
section
variable {w0 w : World} {R : WB} {V : WV} {xr : RS} {b wb kr : Nat} {x : RR} {y : WY}
theorem fz_FR {w' : World} {S : List Nat} (h : Fz wb kr w w') (h1 : wb ∈ S) (h2 : kr ∈ S) : FR S w w' := ⟨h.size, fun k cs T fr g1 g2 g3 => h.cells k cs T fr g1 g2 (fun e => g3 (e ▸ h1)) (fun e => g3 (e ▸ h2)), h.map⟩
def RS3 (w0 w : World) (R : WB) (V : WV) (xr : RS) (b wb kr : Nat) (x : RR) (y : WY) (w' : World) : Prop := ∃ kr', RStp w0 w R V xr b x [b, wb, kr] w' ∧ RWayAt w' w0.heap.size wb kr' y ∧ (kr' = kr ∨ w.heap.size ≤ kr')
def RS3f (w0 w : World) (R : WB) (V : WV) (xr : RS) (b wb kr : Nat) (x : RR) (bits : Int) (p : Int × Int) (r : List (Int × Int)) (w' : World) : Prop := ∃ hb, RStp w0 w R V xr b (x.fnd bits p r hb) [b, wb, kr] w' ∧ RHopsAt w' w.heap.size hb (hpnew (way3 bits (p :: r))) []
structure RW3 (w0 w w' : World) (R : WB) (V : WV) (xr : RS) (b wb kr kr' : Nat) (x : RR) (y : WY) : Prop where
  rb : RRB w0 w' w' R V xr b x
  wy : RWayAt w' w0.heap.size wb kr' y
  kk : kr' = kr ∨ w.heap.size ≤ kr'
  fr : FR [b, wb, kr] w w'
theorem rw3_of (hx : RRoomAt w w0.heap.size b x) (hw : RWayAt w w0.heap.size wb kr y) {w' : World} {xr' : RS} {kr' : Nat} {y' : WY} (h1 : RD w0 w' R V xr') (h2 : RWayAt w' w0.heap.size wb kr' y') (h3 : kr' = kr ∨ w.heap.size ≤ kr') (h4 : Fz wb kr w w') : RW3 w0 w w' R V xr' b wb kr kr' x y' := by
  obtain ⟨cb, e1⟩ := hw.blkB
  obtain ⟨-, cc, T, e2, hT⟩ := hw.krB
  exact ⟨⟨h1, hx.fr (fz_fr h4 e1 e2 hT) rfl, (below_fr (Below.refl _ _) rTy false).fx b⟩, h2, h3, fz_FR h4 (by simp) (by simp)⟩
set_option maxRecDepth 10000 in
set_option maxHeartbeats 4000000 in
theorem rrstep3o (h : RD w0 w R V xr) (hr : xr.room) (hx : RRoomAt w w0.heap.size b x) (h3 : x.line = 3) (hw : RWayAt w w0.heap.size wb kr y) (hxw : x.way = some ⟨wb, 0, none⟩) (hk : WyOk y) (hov : y.over = false) (v : Int) (hv : v = rlook xr.l (wyA y)) (hvb : 0 ≤ v ∧ v < 18446744073709551616) (hn : (y.next v).over = false) (hmd : (y.next v).made = true) :
    Calls Tryz.prog 36 #[.pointer (some ⟨b, 0, none⟩), .pointer (some ⟨R.wb, 0, none⟩)] w fun e w' => e = .returned (.tuple #[]) ∧ RS3 w0 w R V (xr.acc 1 (wyA y) v) b wb kr x (y.next v) w' := by
  have hst := (rstep_any h hr hw hk hov v hv hvb).mono (R' := fun e w' => e = .returned (.tuple #[]) ∧ ∃ kr', RW3 w0 w w' R V (xr.acc 1 (wyA y) v) b wb kr kr' x (y.next v)) fun e w' hh => by
    obtain ⟨h1, kr', h2, h3', h4, h5⟩ := hh
    exact ⟨h1, kr', rw3_of hx hw h2 h3' h4 h5⟩
  obtain ⟨c0, -, -, -, c4, -⟩ := hx.c
  rw [h3] at c0
  rw [hxw] at c4
  obtain ⟨y2, hy2⟩ : ∃ y2, y2 = y.next v := ⟨_, rfl⟩
  obtain ⟨xr2, hxr⟩ : ∃ xr2, xr2 = xr.acc 1 (wyA y) v := ⟨_, rfl⟩
  rw [← hy2] at hst hn hmd ⊢
  rw [← hxr] at hst ⊢
  have HN := Lib.hid hn; have HM := Lib.hid hmd; have HXW := Lib.hid hxw; have HB := Lib.hid hx.blk
  clear h hr hx h3 hw hxw hk hov hv hvb hn hmd hy2 hxr
  go_enter Tryz.func36, Tryz.ntmps36
  go_upto_region 11 with (go_at_call 14; refine hst.mono ?_; intro e w2 hh; obtain ⟨hh1, kr', h2⟩ := hh; subst hh1; have P2 := Lib.hid h2; clear h2 hst c0 c4)
  have c4 := P2.out.rb.rm.c.2.2.2.2.1
  rw [HXW.out] at c4
  have l0 : w2.cell? ⟨wb, 0, none⟩ = some (.int .i64 1) := by
    obtain ⟨_, vl, vw, h1, -⟩ := P2.out.wy
    rw [hcell h1 0]
    show some (Value.int .i64 (if (!y2.made || y2.over) = true then 0 else 1)) = _
    rw [HM.out, HN.out]; rfl
  go_wp2_with (fail)
  go_end0
  exact ⟨rfl, kr', ⟨P2.out.rb.rd, P2.out.rb.rm, P2.out.fr⟩, P2.out.wy, P2.out.kk⟩
set_option maxRecDepth 10000 in
set_option maxHeartbeats 4000000 in
theorem rrstep3f (h : RD w0 w R V xr) (hr : xr.room) (hx : RRoomAt w w0.heap.size b x) (h3 : x.line = 3) (hw : RWayAt w w0.heap.size wb kr y) (hxw : x.way = some ⟨wb, 0, none⟩) (hk : WyOk y) (hov : y.over = false) (v : Int) (hv : v = rlook xr.l (wyA y)) (hvb : 0 ≤ v ∧ v < 18446744073709551616) (hn : (y.next v).over = true) (hwy : (y.next v).way = []) (hl : V.nts.length < 1048576) (hs : Nsteps V.nts (xr.acc 1 (wyA y) v).cnt) :
    Calls Tryz.prog 36 #[.pointer (some ⟨b, 0, none⟩), .pointer (some ⟨R.wb, 0, none⟩)] w fun e w' => e = .returned (.tuple #[]) ∧ RStp w0 w R (noteFull V (xr.acc 1 (wyA y) v).cnt) (xr.acc 1 (wyA y) v) b { x with line := 0 } [b, wb, kr] w' := by
  have hst := (rstep_any h hr hw hk hov v hv hvb).mono (R' := fun e w' => e = .returned (.tuple #[]) ∧ ∃ kr', RW3 w0 w w' R V (xr.acc 1 (wyA y) v) b wb kr kr' x (y.next v)) fun e w' hh => by
    obtain ⟨h1, kr', h2, h3', h4, h5⟩ := hh
    exact ⟨h1, kr', rw3_of hx hw h2 h3' h4 h5⟩
  obtain ⟨c0, -, -, -, c4, -⟩ := hx.c
  rw [h3] at c0
  rw [hxw] at c4
  obtain ⟨y2, hy2⟩ : ∃ y2, y2 = y.next v := ⟨_, rfl⟩
  obtain ⟨xr2, hxr⟩ : ∃ xr2, xr2 = xr.acc 1 (wyA y) v := ⟨_, rfl⟩
  rw [← hy2] at hst hn hwy
  rw [← hxr] at hst hs ⊢
  have HN := Lib.hid hn; have HM := Lib.hid hwy; have HXW := Lib.hid hxw; have HL := Lib.hid hl; have HS := Lib.hid hs
  clear h hr hx h3 hw hxw hk hov hv hvb hn hwy hy2 hxr hl hs
  go_enter Tryz.func36, Tryz.ntmps36
  go_upto_region 11 with (go_at_call 14; refine hst.mono ?_; intro e w2 hh; obtain ⟨hh1, kr', h2⟩ := hh; subst hh1; have P2 := Lib.hid h2; clear h2 hst c0 c4)
  have c4 := P2.out.rb.rm.c.2.2.2.2.1
  rw [HXW.out] at c4
  have l0 : w2.cell? ⟨wb, 0, none⟩ = some (.int .i64 0) := by
    obtain ⟨_, vl, vw, h1, -⟩ := P2.out.wy
    rw [hcell h1 0]
    show some (Value.int .i64 (if (!y2.made || y2.over) = true then 0 else 1)) = _
    rw [HN.out, Bool.or_true]; rfl
  have hfd := rrfound_full P2.out.rb P2.out.wy HXW.out HM.out HL.out HS.out
  go_wp2_with (go_at_call 116; refine hfd.mono ?_; intro e w3 hh; obtain ⟨hh1, h3⟩ := hh; subst hh1; have P3 := Lib.hid h3; clear h3 hfd)
  go_end0
  exact ⟨rfl, rstp_re P3.out P2.out.rb.rm (by simp) P2.out.fr⟩
set_option maxRecDepth 10000 in
set_option maxHeartbeats 4000000 in
theorem rrstep3w (h : RD w0 w R V xr) (hr : xr.room) (hx : RRoomAt w w0.heap.size b x) (h3 : x.line = 3) (hw : RWayAt w w0.heap.size wb kr y) (hxw : x.way = some ⟨wb, 0, none⟩) (hk : WyOk y) (hov : y.over = false) (v : Int) (hv : v = rlook xr.l (wyA y)) (hvb : 0 ≤ v ∧ v < 18446744073709551616) (hn : (y.next v).over = true) (p : Int × Int) (r : List (Int × Int)) (hwy : (y.next v).way = p :: r) (hrl : r.length ≤ 10000) :
    Calls Tryz.prog 36 #[.pointer (some ⟨b, 0, none⟩), .pointer (some ⟨R.wb, 0, none⟩)] w fun e w' => e = .returned (.tuple #[]) ∧ RS3f w0 w R V (xr.acc 1 (wyA y) v) b wb kr x (y.next v).bits p r w' := by
  have hst := (rstep_any h hr hw hk hov v hv hvb).mono (R' := fun e w' => e = .returned (.tuple #[]) ∧ ∃ kr', RW3 w0 w w' R V (xr.acc 1 (wyA y) v) b wb kr kr' x (y.next v)) fun e w' hh => by
    obtain ⟨h1, kr', h2, h3', h4, h5⟩ := hh
    exact ⟨h1, kr', rw3_of hx hw h2 h3' h4 h5⟩
  obtain ⟨c0, -, -, -, c4, -⟩ := hx.c
  rw [h3] at c0
  rw [hxw] at c4
  obtain ⟨y2, hy2⟩ : ∃ y2, y2 = y.next v := ⟨_, rfl⟩
  obtain ⟨xr2, hxr⟩ : ∃ xr2, xr2 = xr.acc 1 (wyA y) v := ⟨_, rfl⟩
  rw [← hy2] at hst hn hwy ⊢
  rw [← hxr] at hst ⊢
  have HN := Lib.hid hn; have HM := Lib.hid hwy; have HXW := Lib.hid hxw; have HL := Lib.hid hrl
  clear h hr hx h3 hw hxw hk hov hv hvb hn hwy hy2 hxr hrl
  go_enter Tryz.func36, Tryz.ntmps36
  go_upto_region 11 with (go_at_call 14; refine hst.mono ?_; intro e w2 hh; obtain ⟨hh1, kr', h2⟩ := hh; subst hh1; have P2 := Lib.hid h2; clear h2 hst c0 c4)
  have c4 := P2.out.rb.rm.c.2.2.2.2.1
  rw [HXW.out] at c4
  have l0 : w2.cell? ⟨wb, 0, none⟩ = some (.int .i64 0) := by
    obtain ⟨_, vl, vw, h1, -⟩ := P2.out.wy
    rw [hcell h1 0]
    show some (Value.int .i64 (if (!y2.made || y2.over) = true then 0 else 1)) = _
    rw [HN.out, Bool.or_true]; rfl
  have hfd := rrfound_way P2.out.rb P2.out.wy HXW.out p r HM.out HL.out
  go_wp2_with (go_at_call 116; refine hfd.mono ?_; intro e w3 hh; obtain ⟨hh1, hb, h3, h4⟩ := hh; subst hh1; have P3 := Lib.hid h3; have P4 := Lib.hid h4; clear h3 h4 hfd)
  go_end0
  exact ⟨rfl, hb, rstp_re P3.out P2.out.rb.rm (by simp) P2.out.fr, P4.out.lower P2.out.fr.size⟩
end
def RS4 (w0 w : World) (R : WB) (V : WV) (xr : RS) (b hb : Nat) (x : RR) (z : HP) (qs : List (Nat × Dg)) (w' : World) : Prop := ∃ qs', RStp w0 w R V xr b (if z.left = 0 then { x with is := true, line := 0 } else x) (b :: hb :: qs.map Prod.fst) w' ∧ RHopsAt w' w0.heap.size hb z qs' ∧ ∀ q ∈ qs', q.1 ∈ qs.map Prod.fst ∨ w.heap.size ≤ q.1
theorem fR_sub {S T : List Nat} {w w' : World} (h : FR S w w') (hs : ∀ k ∈ S, k ∈ T) : FR T w w' := ⟨h.size, fun k cs X fr g1 g2 g3 => h.cells k cs X fr g1 g2 (fun c => g3 (hs k c)), h.map⟩
set_option maxRecDepth 10000 in
set_option maxHeartbeats 4000000 in
theorem rrstep4 {w0 w : World} {R : WB} {V : WV} {xr : RS} {s : CS} {b hb : Nat} {x : RR} {z : HP} {qs : List (Nat × Dg)} (h : RD w0 w R V xr) (hr : xr.room) (hv : s.val = rlook xr.l) (hsv : ∀ a, 0 ≤ s.val a ∧ s.val a < 18446744073709551616) (hx : RRoomAt w w0.heap.size b x) (h4 : x.line = 4) (hz : RHopsAt w w0.heap.size hb z qs) (hxh : x.hops = some ⟨hb, 0, none⟩) (hl0 : z.left ≠ 0) (hwf : ∀ p ∈ z.way, (Lit.int .i64 p.2.2).wf = true) :
    Calls Tryz.prog 36 #[.pointer (some ⟨b, 0, none⟩), .pointer (some ⟨R.wb, 0, none⟩)] w fun e w' => e = .returned (.tuple #[]) ∧ RS4 w0 w R V (z.nextR s xr) b hb x (z.next s).2 qs w' := by
  have hst := rhpstep h hr hv hsv hz hl0 hwf
  have hbn : b ∉ hb :: qs.map Prod.fst := by
    intro c
    have h1 := hx.blk
    rcases List.mem_cons.1 c with e | e
    · obtain ⟨cs, h2⟩ := hz.m.blk
      rw [e, h2] at h1
      simp only [Option.some.injEq, Obj.cells.injEq] at h1
      exact absurd h1.2.1 (by decide)
    · obtain ⟨q, hq, e2⟩ := List.mem_map.1 e
      obtain ⟨cs, h2⟩ := (hz.m.dos q hq).1.blk
      rw [← e2, h2] at h1
      simp only [Option.some.injEq, Obj.cells.injEq] at h1
      rcases q.2.rty_or with c | c <;> rw [c] at h1 <;> exact absurd h1.2.1 (by decide)
  obtain ⟨c0, -, -, -, -, c5, -⟩ := hx.c
  rw [h4] at c0
  rw [hxh] at c5
  obtain ⟨z2, hz2⟩ : ∃ z2, z2 = (z.next s).2 := ⟨_, rfl⟩
  obtain ⟨xr2, hxr⟩ : ∃ xr2, xr2 = z.nextR s xr := ⟨_, rfl⟩
  rw [← hz2, ← hxr] at hst ⊢
  have HBN := Lib.hid hbn; have HXB := Lib.hid hx; have HXH := Lib.hid hxh
  clear h hr hv hsv hx h4 hz hxh hl0 hwf hbn hz2 hxr
  go_enter Tryz.func36, Tryz.ntmps36
  go_upto_region 15 with (go_at_call 117; refine hst.mono ?_; intro e w2 hh; obtain ⟨hh1, qs', h1, h2, h3, h4⟩ := hh; subst hh1; have HM2 := Lib.hid (show RRoomAt w2 w0.heap.size b x from ⟨HXB.out.low, h3.cells _ _ _ _ HXB.out.blk rfl HBN.out⟩); have H1 := Lib.hid h1; have H2 := Lib.hid h2; have H3 := Lib.hid h3; have H4 := Lib.hid h4; clear h1 h2 h3 h4 hst c0 c5)
  have c5 := HM2.out.c.2.2.2.2.2.1
  rw [HXH.out] at c5
  have hln := H2.out.line
  have hov := H2.out.over
  obtain ⟨l, hl⟩ : ∃ l, l = z2.rln := ⟨_, rfl⟩
  rw [← hl] at hln hov
  clear hl
  have hF : FR (b :: hb :: qs.map Prod.fst) w w2 := fR_sub H3.out (fun k hk => List.mem_cons_of_mem _ hk)
  have HF := Lib.hid hF
  clear hF
  by_cases hz : z2.left = 0
  · rw [decide_eq_true hz] at hov
    have HZ := Lib.hid hz
    clear hz
    have c0 := HM2.out.c.1
    have c9 := HM2.out.c.2.2.2.2.2.2.2.2.2
    have f := HM2.out.f
    go_wp2_with (fail)
    go_end0
    have hB : RRB w0 w2 w2 R V xr2 b x := ⟨H1.out, HM2.out, (below_fr (Below.refl _ _) rTy false).fx b⟩
    have hB2 := (hB.set (y := { x with is := true }) 9 (.bool true) rfl).set (y := { x with is := true, line := 0 }) 0 (.int .i64 0) rfl
    refine ⟨rfl, qs', ?_, ?_, H4.out⟩
    · rw [if_pos HZ.out]
      exact rstp_re hB2 HM2.out (by simp) HF.out
    · have hs1 := hB.set (y := { x with is := true }) 9 (.bool true) rfl
      exact (H2.out.fr (set_ty HM2.out.blk 9 (.bool true)) rfl rfl rfl rfl rfl).fr (set_ty hs1.rm.blk 0 (.int .i64 0)) rfl rfl rfl rfl rfl
  · rw [decide_eq_false hz] at hov
    have HZ := Lib.hid hz
    clear hz
    go_wp2_with (fail)
    go_end0
    refine ⟨rfl, qs', ?_, H2.out, H4.out⟩
    rw [if_neg HZ.out]
    exact ⟨H1.out, HM2.out, HF.out⟩
end Go.Proofs.YtmakjfeepmiggaaGreat