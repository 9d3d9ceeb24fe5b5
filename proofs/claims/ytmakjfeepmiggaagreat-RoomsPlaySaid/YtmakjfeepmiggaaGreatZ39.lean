import Derived.Test.YtmakjfeepmiggaaGreatZ28
import Derived.Test.YtmakjfeepmiggaaGreatZ35
import Derived.Test.YtmakjfeepmiggaaGreatZ38
import Derived.Test.YtmakjfeepmiggaaGreatZ34
namespace Go.Proofs.YtmakjfeepmiggaaGreat
open Go.RowKit Go.Maps TagPure
set_option linter.unusedVariables false
structure RR where
  line : Int
  bits : Int
  a : Int
  b : Int
  way : Option Addr
  hops : Option Addr
  sb : Int
  su : Int
  sk : Int
  is : Bool
def RR.cells (x : RR) : Array Value := #[.int .i64 x.line, .int .i64 x.bits, .int .i64 x.a, .int .i64 x.b, .pointer x.way, .pointer x.hops, .int .i64 x.sb, .int .i64 x.su, .int .i64 x.sk, .bool x.is]
structure RRoomAt (w : World) (lo b : Nat) (x : RR) : Prop where
  low : lo ≤ b
  blk : w.heap[b]? = some (.cells x.cells 107 (0, 0))
section
variable {w w' : World} {lo lo' b : Nat} {x y : RR}
theorem RRoomAt.fr {K : TypeId → Bool} {mp : Bool} (h : RRoomAt w lo b x) (hf : Fr K mp w w') (h1 : K 107 = false) : RRoomAt w' lo b x := ⟨h.low, hf.cells _ _ _ _ h.blk h1⟩
theorem RRoomAt.below (h : RRoomAt w lo b x) (hb : Below w.heap.size w w') : RRoomAt w' lo b x := h.fr (below_fr hb (fun _ => false) false) rfl
theorem RRoomAt.lower (h : RRoomAt w lo b x) (hl : lo' ≤ lo) : RRoomAt w lo' b x := ⟨Nat.le_trans hl h.low, h.blk⟩
theorem RRoomAt.set (h : RRoomAt w lo b x) (o : Nat) (u : Value) (hc : x.cells.setIfInBounds o u = y.cells) : RRoomAt (w.setCell ⟨b, o, none⟩ u) lo b y := ⟨h.low, by have g := setCell_same h.blk o u; rw [hc] at g; exact g⟩
theorem RRoomAt.f (h : RRoomAt w lo b x) (o : Nat) : w.frozen? ⟨b, o, none⟩ = false := hfrz h.blk o
theorem RRoomAt.c (h : RRoomAt w lo b x) : w.cell? ⟨b, 0, none⟩ = some (.int .i64 x.line) ∧ w.cell? ⟨b, 1, none⟩ = some (.int .i64 x.bits) ∧ w.cell? ⟨b, 2, none⟩ = some (.int .i64 x.a) ∧ w.cell? ⟨b, 3, none⟩ = some (.int .i64 x.b) ∧ w.cell? ⟨b, 4, none⟩ = some (.pointer x.way) ∧ w.cell? ⟨b, 5, none⟩ = some (.pointer x.hops) ∧ w.cell? ⟨b, 6, none⟩ = some (.int .i64 x.sb) ∧ w.cell? ⟨b, 7, none⟩ = some (.int .i64 x.su) ∧ w.cell? ⟨b, 8, none⟩ = some (.int .i64 x.sk) ∧ w.cell? ⟨b, 9, none⟩ = some (.bool x.is) :=
  ⟨hcell h.blk 0, hcell h.blk 1, hcell h.blk 2, hcell h.blk 3, hcell h.blk 4, hcell h.blk 5, hcell h.blk 6, hcell h.blk 7, hcell h.blk 8, hcell h.blk 9⟩
end
structure RRB (w0 w W : World) (R : WB) (V : WV) (xr : RS) (b : Nat) (x : RR) : Prop where
  rd : RD w0 W R V xr
  rm : RRoomAt W w0.heap.size b x
  fx : Fx rTy false b w W
section
variable {w0 w W W' : World} {R : WB} {V V' : WV} {xr xr' : RS} {b : Nat} {x y : RR}
theorem RRB.below (h : RRB w0 w W R V xr b x) (hb : Below W.heap.size W W') : RRB w0 w W' R V xr b x := ⟨h.rd.keep hb, h.rm.below hb, h.fx.trans ((below_fr hb rTy false).fx b)⟩
theorem RRB.set (h : RRB w0 w W R V xr b x) (o : Nat) (u : Value) (hc : x.cells.setIfInBounds o u = y.cells) : RRB w0 w (W.setCell ⟨b, o, none⟩ u) R V xr b y :=
  ⟨rd_kp h.rd (setCell_keeps W b o u) h.rm.blk rfl h.rm.low, h.rm.set o u hc, h.fx.trans (set_fx rTy false W b o u)⟩
theorem RRB.move (h : RRB w0 w W R V xr b x) (h2 : RD w0 W' R V' xr') (hf : Fr rTy false W W') : RRB w0 w W' R V' xr' b x := ⟨h2, h.rm.fr hf rfl, h.fx.trans (hf.fx b)⟩
end
set_option maxRecDepth 10000 in
theorem rrgot {w : World} {lo b : Nat} {x : RR} (h : RRoomAt w lo b x) : Calls Tryz.prog 112 #[.pointer (some ⟨b, 0, none⟩)] w fun e w' => e = .returned (.tuple (if x.is = true then #[.agg #[.int .i64 x.sb, .int .i64 x.su, .int .i64 x.sk], .bool true] else #[.agg #[.int .i64 0, .int .i64 0, .int .i64 0], .bool false])) ∧ Below w.heap.size w w' := by
  obtain ⟨-, -, -, -, -, -, c7, c8, c9, c10⟩ := h.c
  have hne : b < w.heap.size := (Array.getElem?_eq_some_iff.1 h.blk).1
  have hb := below_alloc w (.cells #[.int .i64 0, .int .i64 0, .int .i64 0] 71)
  have hz := heap_alloc_new w (.cells #[.int .i64 0, .int .i64 0, .int .i64 0] 71)
  have k : ∀ {j : Nat} {u : Value}, w.cell? ⟨b, j, none⟩ = some u → (w.alloc (.cells #[.int .i64 0, .int .i64 0, .int .i64 0] 71)).cell? ⟨b, j, none⟩ = some u := fun h => (hb.cell hne).trans h
  have hne2 : b ≠ w.heap.size := Nat.ne_of_lt hne
  have g7 := k c7; have g8 := k c8; have g9 := k c9; have g10 := k c10
  have d0 := hcell hz 0; have d1 := hcell hz 1; have d2 := hcell hz 2
  have f0 := hfrz hz 0; have f1 := hfrz hz 1; have f2 := hfrz hz 2
  have HB := Lib.hid hb; have HZ := Lib.hid hz
  clear h c7 c8 c9 c10 k hb hz hne
  generalize x.is = is at *
  cases is
  · go_enter Tryz.func112, Tryz.ntmps112
    go_upto_region 1 with (fail)
    change Code.wp _ _ _ _ (w.alloc (.cells #[.int .i64 0, .int .i64 0, .int .i64 0] 71))
    generalize w.alloc (.cells #[.int .i64 0, .int .i64 0, .int .i64 0] 71) = w1 at *
    have s1 := setCell_same HZ.out 0 (.int .i64 0)
    have s2 := setCell_same s1 1 (.int .i64 0)
    have s3 := setCell_same s2 2 (.int .i64 0)
    have h0 := hcell s3 0; have h1 := hcell s3 1; have h2 := hcell s3 2
    have b1 := set_below HB.out HB.out.size (Nat.le_refl _) 0 (.int .i64 0)
    have b2 := set_below b1 b1.size (Nat.le_refl _) 1 (.int .i64 0)
    have b3 := set_below b2 b2.size (Nat.le_refl _) 2 (.int .i64 0)
    have B3 := Lib.hid b3; have H0 := Lib.hid h0; have H1 := Lib.hid h1; have H2 := Lib.hid h2
    clear s1 s2 s3 h0 h1 h2 b1 b2 b3
    go_wp2_with fail
    have h0 := H0.out; have h1 := H1.out; have h2 := H2.out
    refine bodyPost_ret (v := .tuple #[.agg #[.int .i64 0, .int .i64 0, .int .i64 0], .bool false]) (by simp [results, Tryz.results112, go_sem, h0, h1, h2]) rfl ⟨rfl, B3.out⟩
  · go_enter Tryz.func112, Tryz.ntmps112
    go_upto_region 1 with (fail)
    change Code.wp _ _ _ _ (w.alloc (.cells #[.int .i64 0, .int .i64 0, .int .i64 0] 71))
    generalize w.alloc (.cells #[.int .i64 0, .int .i64 0, .int .i64 0] 71) = w1 at *
    have s1 := setCell_same HZ.out 0 (.int .i64 x.sb)
    have s2 := setCell_same s1 1 (.int .i64 x.su)
    have s3 := setCell_same s2 2 (.int .i64 x.sk)
    have h0 := hcell s3 0; have h1 := hcell s3 1; have h2 := hcell s3 2
    have b1 := set_below HB.out HB.out.size (Nat.le_refl _) 0 (.int .i64 x.sb)
    have b2 := set_below b1 b1.size (Nat.le_refl _) 1 (.int .i64 x.su)
    have b3 := set_below b2 b2.size (Nat.le_refl _) 2 (.int .i64 x.sk)
    have B3 := Lib.hid b3; have H0 := Lib.hid h0; have H1 := Lib.hid h1; have H2 := Lib.hid h2
    clear s1 s2 s3 h0 h1 h2 b1 b2 b3
    go_wp2_with fail
    have h0 := H0.out; have h1 := H1.out; have h2 := H2.out
    refine bodyPost_ret (v := .tuple #[.agg #[.int .i64 x.sb, .int .i64 x.su, .int .i64 x.sk], .bool true]) (by simp [results, Tryz.results112, go_sem, h0, h1, h2]) rfl ⟨rfl, B3.out⟩
def RR.free (x : RR) (c v : Int) : RR := if frW v = -1 then x else { x with sb := x.bits, su := c, sk := frW v, is := true, line := 0 }
set_option maxRecDepth 10000 in
set_option maxHeartbeats 4000000 in
theorem rrfree {w0 w W : World} {R : WB} {V : WV} {xr : RS} {b : Nat} {x : RR} (h : RRB w0 w W R V xr b x) (hr : xr.room) (c v : Int) (hv : v = rlook xr.l (tagsA x.bits c)) (hvb : 0 ≤ v ∧ v < 18446744073709551616) :
    Calls Tryz.prog 114 #[.pointer (some ⟨b, 0, none⟩), .pointer (some ⟨R.wb, 0, none⟩), .int .i64 c] W fun e w' => e = .returned (.bool (!decide (frW v = -1))) ∧ RRB w0 w w' R V (xr.acc 1 (tagsA x.bits c) v) b (x.free c v) := by
  have hTG := fun W => rtags_any x.bits c W
  obtain ⟨bits, hbt⟩ : ∃ bits, bits = x.bits := ⟨_, rfl⟩
  have c1 := h.rm.c.2.1
  rw [← hbt] at hTG hv c1 ⊢
  obtain ⟨A, hA⟩ : ∃ A, A = tagsA bits c := ⟨_, rfl⟩
  have hAw : (Lit.int .u64 A).wf = true := by rw [hA]; exact tagsA_wf _ _
  rw [← hA] at hTG hv ⊢
  have hfree := fun W => rfree_anyF v W hvb.1 hvb.2
  have hfe : freeFrom v 0 4 = frW v := rfl
  rw [hfe] at hfree
  have hfc := free_casesW v
  rw [hfe] at hfc
  obtain ⟨fv, hfv⟩ : ∃ fv, fv = frW v := ⟨_, rfl⟩
  rw [← hfv] at hfree hfc ⊢
  have hfin : x.free c v = if fv = -1 then x else { x with sb := bits, su := c, sk := fv, is := true, line := 0 } := by unfold RR.free; rw [hfv, hbt]
  have HB := Lib.hid h; have HR := Lib.hid hr; have HV := Lib.hid hv; have HAW := Lib.hid hAw; have HFIN := Lib.hid hfin; have HFC := Lib.hid hfc
  clear h hr hv hvb hA hAw hfe hfc hfv hfin hbt
  go_enter Tryz.func114, Tryz.ntmps114
  go_upto_region 2 with (fail)
  have kA := below_alloc W (.cells #[.int .i64 bits, .int .i64 c] 69)
  have n1 := heap_alloc_new W (.cells #[.int .i64 bits, .int .i64 c] 69)
  have HB2 := Lib.hid (HB.out.below kA); have N2 := Lib.hid n1
  change Code.wp _ _ _ _ (W.alloc (.cells #[.int .i64 bits, .int .i64 c] 69))
  clear c1 kA n1 HB
  generalize W.alloc (.cells #[.int .i64 bits, .int .i64 c] 69) = w2 at *
  obtain ⟨nb, hnb⟩ : ∃ nb, nb = W.heap.size := ⟨_, rfl⟩
  rw [← hnb] at N2
  try simp only [← hnb]
  clear hnb
  have r0 := hcell N2.out 0
  have r1 := hcell N2.out 1
  go_upto_region 3 with (first
    | (go_at_call 56; refine (hTG _).mono ?_; intro e w3 hh; obtain ⟨hh1, b3⟩ := hh; subst hh1; have HB3 := Lib.hid (HB2.out.below b3); have N3 := Lib.hid ((b3.block _ (Array.getElem?_eq_some_iff.1 N2.out).1).trans N2.out); have hl3 := rwload HB3.out.rd HR.out A HAW.out; rw [← HV.out] at hl3; clear b3 hTG r0 r1)
    | (go_at_call 55; refine hl3.mono ?_; intro e w4 hh; obtain ⟨hh1, h4, f4⟩ := hh; subst hh1; have HB4 := Lib.hid (HB3.out.move h4 f4); have N4 := Lib.hid (f4.cells _ _ _ _ N3.out rfl); clear h4 f4 hl3)
    | (go_at_call 57; refine (hfree _).mono ?_; intro e w5 hh; obtain ⟨hh1, hh2⟩ := hh; subst hh1; obtain rfl := hh2; clear hfree))
  by_cases hf : fv = -1
  · have d1 : decide (fv < 0) = true := decide_eq_true (by omega)
    have HF := Lib.hid hf
    clear hf
    go_wp2_with (fail)
    refine bodyPost_ret (v := .bool false) (by simp [results, Tryz.results114, go_sem]) rfl ?_
    have e1 : (!decide (fv = -1)) = false := by rw [decide_eq_true HF.out]; rfl
    rw [e1, HFIN.out, if_pos HF.out]
    exact ⟨rfl, HB4.out⟩
  · have d1 : decide (fv < 0) = false := decide_eq_false (by have := HFC.out; rcases this with e | ⟨n, _, e, _⟩ <;> omega)
    have HF := Lib.hid hf
    clear hf
    have r0 := hcell N4.out 0
    have r1 := hcell N4.out 1
    obtain ⟨c0, -, -, -, -, -, c6, c7, c8, c9⟩ := HB4.out.rm.c
    have f := HB4.out.rm.f
    have HB5 := Lib.hid ((((HB4.out.set (y := { x with sb := bits }) 6 (.int .i64 bits) rfl).set (y := { x with sb := bits, su := c }) 7 (.int .i64 c) rfl).set (y := { x with sb := bits, su := c, sk := fv }) 8 (.int .i64 fv) rfl))
    go_upto_region 6 with (fail)
    generalize ((w4.setCell ⟨b, 6, none⟩ (.int .i64 bits)).setCell ⟨b, 7, none⟩ (.int .i64 c)).setCell ⟨b, 8, none⟩ (.int .i64 fv) = w6 at *
    clear r0 r1 c0 c6 c7 c8 c9 f HB4 N4 d1
    obtain ⟨c0, -, -, -, -, -, -, -, -, c9⟩ := HB5.out.rm.c
    have f := HB5.out.rm.f
    have HB7 := Lib.hid ((HB5.out.set (y := { x with sb := bits, su := c, sk := fv, is := true }) 9 (.bool true) rfl).set (y := { x with sb := bits, su := c, sk := fv, is := true, line := 0 }) 0 (.int .i64 0) rfl)
    go_wp2_with (fail)
    refine bodyPost_ret (v := .bool true) (by simp [results, Tryz.results114, go_sem]) rfl ?_
    have e1 : (!decide (fv = -1)) = true := by rw [decide_eq_false HF.out]; rfl
    rw [e1, HFIN.out, if_neg HF.out]
    exact ⟨rfl, HB7.out⟩
def RR.srch (x : RR) (wb : Nat) : RR := { x with line := 3, way := some ⟨wb, 0, none⟩ }
abbrev TNr (b wb : Nat) (bits a b' way : Int) (W : World) : Prop := W.cell? ⟨b, 1, none⟩ = some (.int .i64 bits) ∧ W.cell? ⟨b, 2, none⟩ = some (.int .i64 a) ∧ W.cell? ⟨b, 3, none⟩ = some (.int .i64 b') ∧ W.cell? ⟨wb, 7, none⟩ = some (.int .i64 way)
theorem RRB.tnr {w0 w W : World} {R : WB} {V : WV} {xr : RS} {b : Nat} {x : RR} (h : RRB w0 w W R V xr b x) : TNr b R.wb x.bits x.a x.b V.c.way W := by
  obtain ⟨-, c1, c2, c3, -⟩ := h.rm.c
  exact ⟨c1, c2, c3, (h.rd.cell 7).trans rfl⟩
def RSrch (w0 w w' : World) (R : WB) (V : WV) (xr : RS) (b : Nat) (x : RR) (kb m : Nat) : Prop := ∃ wb kr, RRB w0 w w' R V xr b (x.srch wb) ∧ RWayAt w' w.heap.size wb kr (wnew x.bits V.c.way x.a x.b kb m) ∧ w.heap.size ≤ kr
set_option maxRecDepth 10000 in
set_option maxHeartbeats 4000000 in
theorem rrsearch {w0 w W : World} {R : WB} {V : WV} {xr : RS} {b : Nat} {x : RR} (kb m : Nat) (h : RRB w0 w W R V xr b x) (hab : (0 ≤ x.a ∧ x.a < tsize x.bits) ∧ 0 ≤ x.b ∧ x.b < tsize x.bits) :
    Calls Tryz.prog 115 #[.pointer (some ⟨b, 0, none⟩), .pointer (some ⟨R.wb, 0, none⟩)] W fun e w' => e = .returned (.tuple #[]) ∧ RSrch w0 w w' R V xr b x kb m := by
  have c0 := h.rm.c.1
  have f := h.rm.f
  have h2 := h.set (y := { x with line := 3 }) 0 (.int .i64 3) rfl
  have HB2 := Lib.hid h2; have HAB := Lib.hid hab
  clear h h2 hab
  go_enter Tryz.func115, Tryz.ntmps115
  go_upto_region 1 with (fail)
  clear c0 f
  generalize W.setCell ⟨b, 0, none⟩ (.int .i64 3) = w2 at *
  have kd : Below w2.heap.size w2 w2.drew := (Below.refl _ _).drew
  have HB3 := Lib.hid (HB2.out.below kd)
  have s3 : TNr b R.wb x.bits x.a x.b V.c.way w2.drew := HB3.out.tnr
  have hnw := rnew_ok kb m x.bits x.a x.b V.c.way HAB.out.1 HAB.out.2 w2.drew
  have HSZ := Lib.hid (show w.heap.size ≤ w2.drew.heap.size from HB3.out.fx.size)
  clear kd
  go_region_held2 (fun W => TNr b R.wb x.bits x.a x.b V.c.way W) (assumption) (first
    | (go_at_call 11; refine hnw.mono ?_; intro e w4 hh; obtain ⟨wb, kr, hh1, hw, b4, hkr⟩ := hh; subst hh1; have HB4 := Lib.hid (HB3.out.below b4); have HW4 := Lib.hid hw; have HKR := Lib.hid (Nat.le_trans HSZ.out hkr); have c4 := HB4.out.rm.c.2.2.2.2.1; have f4 := HB4.out.rm.f 4; have s4 : TNr b R.wb x.bits x.a x.b V.c.way w4 := HB4.out.tnr; have HB5 := Lib.hid (HB4.out.set (y := x.srch wb) 4 (.pointer (some ⟨wb, 0, none⟩)) rfl); have s5 : TNr b R.wb x.bits x.a x.b V.c.way (w4.setCell ⟨b, 4, none⟩ (.pointer (some ⟨wb, 0, none⟩))) := HB5.out.tnr; clear hw b4 hkr hnw s3))
  go_wp2_with (fail)
  go_end0
  refine ⟨rfl, wb, kr, HB5.out, ?_, HKR.out⟩
  have h9 := HW4.out.fr (set_ty HB4.out.rm.blk 4 (.pointer (some ⟨wb, 0, none⟩))) (fun T hT => by
    unfold ryTy at hT
    simp only [Bool.or_eq_true, beq_iff_eq] at hT
    rcases hT with (rfl | rfl) | rfl <;> rfl)
  obtain ⟨l0, vl, vw, g1, g2, g3, g4⟩ := h9
  exact ⟨Nat.le_trans HSZ.out l0, vl, vw, g1, own_lo17 g2 HSZ.out, own_lo17 g3 HSZ.out, g4⟩
end Go.Proofs.YtmakjfeepmiggaaGreat
namespace Go.Proofs.YtmakjfeepmiggaaGreat
open Go.RowKit Go.Maps TagPure
set_option linter.unusedVariables false
structure RStp (w0 w : World) (R : WB) (V : WV) (xr : RS) (b : Nat) (y : RR) (S : List Nat) (w' : World) : Prop where
  rd : RD w0 w' R V xr
  rm : RRoomAt w' w0.heap.size b y
  fr : FR S w w'
theorem rstp_re {w0 w w1 w' : World} {R : WB} {V : WV} {xr : RS} {b : Nat} {x y : RR} {S : List Nat} (h : RRB w0 w1 w' R V xr b y) (hb : RRoomAt w1 w0.heap.size b x) (hS : b ∈ S) (hf : FR S w w1) : RStp w0 w R V xr b y S w' := ⟨h.rd, h.rm, hf.trans (fR_fx h.fx (fun _ h => h) hS hb.blk)⟩
def noteFull (V : WV) (c : Int) : WV := { V with nts := nadd V.nts ⟨c, V.hd, 3, 0, 0, 0, 0, 0⟩ }
section
variable {w0 w W : World} {R : WB} {V : WV} {xr : RS} {b wb kr : Nat} {x : RR} {y : WY}
set_option maxRecDepth 10000 in
set_option maxHeartbeats 2000000 in
theorem rrfound_full (h : RRB w0 w W R V xr b x) (hw : RWayAt W w0.heap.size wb kr y) (hx : x.way = some ⟨wb, 0, none⟩) (hy : y.way = []) (hl : V.nts.length < 1048576) (hs : Nsteps V.nts xr.cnt) :
    Calls Tryz.prog 116 #[.pointer (some ⟨b, 0, none⟩), .pointer (some ⟨R.wb, 0, none⟩)] W fun e w' => e = .returned (.tuple #[]) ∧ RRB w0 w w' R (noteFull V xr.cnt) xr b { x with line := 0 } := by
  have hg := rgot hw (by rw [hy]; simp)
  have c4 := h.rm.c.2.2.2.2.1
  rw [hx] at c4
  have HB := Lib.hid h; have HY := Lib.hid hy; have HL := Lib.hid hl; have HS := Lib.hid hs
  clear h hw hx hy hl hs
  go_enter Tryz.func116, Tryz.ntmps116
  go_upto_region 1 with (go_at_call 52; refine hg.mono ?_; intro e w2 hh; obtain ⟨v, hh1, hown, b2⟩ := hh; subst hh1; rw [HY.out] at hown; obtain ⟨va, vc, rfl⟩ := own_sl2 hown; have HB2 := Lib.hid (HB.out.below b2); clear hown b2 hg c4)
  have c0 := HB2.out.rm.c.1
  have f0 := HB2.out.rm.f 0
  have HB3 := Lib.hid (HB2.out.set (y := { x with line := 0 }) 0 (.int .i64 0) rfl)
  clear HB2
  go_upto_region 2 with (fail)
  generalize w2.setCell ⟨b, 0, none⟩ (.int .i64 0) = w3 at *
  clear c0 f0
  have hnt := rnote_any HB3.out.rd 3 0 0 0 0 0 HL.out HS.out
  go_wp2_with (go_at_call 164; refine hnt.mono ?_; intro e w4 hh; obtain ⟨hh1, h4, f4⟩ := hh; subst hh1; have HB4 := Lib.hid (HB3.out.move h4 f4); clear h4 f4 hnt)
  refine bodyPost_ret (v := .tuple #[]) (by simp [results, Tryz.results116, go_sem]) rfl ⟨rfl, HB4.out⟩
def RR.fnd (x : RR) (bits : Int) (p : Int × Int) (r : List (Int × Int)) (hb : Nat) : RR := { x with line := if r = [] then 0 else 4, sb := bits, su := p.1, sk := p.2, hops := some ⟨hb, 0, none⟩, is := if r = [] then true else x.is }
def RFnd (w0 w w' : World) (R : WB) (V : WV) (xr : RS) (b : Nat) (x : RR) (bits : Int) (p : Int × Int) (r : List (Int × Int)) : Prop := ∃ hb, RRB w0 w w' R V xr b (x.fnd bits p r hb) ∧ RHopsAt w' w.heap.size hb (hpnew (way3 bits (p :: r))) []
set_option maxRecDepth 10000 in
set_option maxHeartbeats 4000000 in
theorem rrfound_way (h : RRB w0 w W R V xr b x) (hw : RWayAt W w0.heap.size wb kr y) (hx : x.way = some ⟨wb, 0, none⟩) (p : Int × Int) (r : List (Int × Int)) (hy : y.way = p :: r) (hrl : r.length ≤ 10000) :
    Calls Tryz.prog 116 #[.pointer (some ⟨b, 0, none⟩), .pointer (some ⟨R.wb, 0, none⟩)] W fun e w' => e = .returned (.tuple #[]) ∧ RFnd w0 w w' R V xr b x y.bits p r := by
  have hg := rgot hw (by rw [hy, List.length_cons]; omega)
  have c4 := h.rm.c.2.2.2.2.1
  rw [hx] at c4
  obtain ⟨bits, hbt⟩ : ∃ bits, bits = y.bits := ⟨_, rfl⟩
  rw [hy, ← hbt, ← flat3_way] at hg
  rw [← hbt]
  obtain ⟨L, hL⟩ : ∃ L, L = way3 bits (p :: r) := ⟨_, rfl⟩
  have hLn : (p :: r).length = L.length := by rw [hL]; unfold way3; rw [List.length_map]
  rw [← hL, hLn] at hg
  have hL0 : L[0]? = some (bits, p.1, p.2) := by rw [hL]; rfl
  have hLe : L ≠ [] := by rw [hL]; unfold way3; simp
  have hLl : L.length ≤ 100000 := by rw [← hLn, List.length_cons]; omega
  have hLp : 0 < L.length := List.length_pos_iff.2 hLe
  have hr0 : (r = []) ↔ L.length - 1 = 0 := by rw [← hLn, List.length_cons, Nat.add_sub_cancel, List.length_eq_zero_iff]
  have HB := Lib.hid h; have HL := Lib.hid hL; have HL0 := Lib.hid hL0; have HLE := Lib.hid hLe; have HLL := Lib.hid hLl; have HR0 := Lib.hid hr0; have HLP := Lib.hid hLp
  clear h hw hx hy hrl hbt hL hLn hL0 hLe hLl hr0 hLp
  obtain ⟨p0, p1⟩ := p
  simp only at *
  go_enter Tryz.func116, Tryz.ntmps116
  go_upto_region 1 with (go_at_call 52; refine hg.mono ?_; intro e w2 hh; obtain ⟨v, hh1, hown, b2⟩ := hh; subst hh1; obtain ⟨g, cap, rfl, -⟩ := own_some hown HLP.out; have HB2 := Lib.hid (HB.out.below b2); have HO2 := Lib.hid hown; have HS2 := Lib.hid (show w.heap.size ≤ w2.heap.size from HB2.out.fx.size); clear hown b2 hg c4)
  have c0 := HB2.out.rm.c.1
  have f0 := HB2.out.rm.f 0
  have HB3 := Lib.hid (HB2.out.set (y := { x with line := 0 }) 0 (.int .i64 0) rfl)
  have HO3 := Lib.hid (own_fr HO2.out (set_ty HB2.out.rm.blk 0 (.int .i64 0)) rfl)
  go_upto_region 2 with (fail)
  clear c0 f0 HB2 HO2
  generalize w2.setCell ⟨b, 0, none⟩ (.int .i64 0) = w3 at *
  have l0 : ((L.length : Int) == 0) = false := beq_eq_false_iff_ne.2 (by have := HLP.out; omega)
  have l1 : (0 : Int) < L.length := by have := HLP.out; omega
  obtain ⟨t0, t1, t2, -⟩ := own_cell3 HO3.out 0 _ HL0.out
  simp only [Nat.zero_mul, Nat.zero_add] at t0 t1 t2
  obtain ⟨-, -, -, -, -, -, c6, c7, c8, -⟩ := HB3.out.rm.c
  have f := HB3.out.rm.f
  have HB4 := Lib.hid (((HB3.out.set (y := { x with line := 0, sb := bits }) 6 (.int .i64 bits) rfl).set (y := { x with line := 0, sb := bits, su := p0 }) 7 (.int .i64 p0) rfl).set (y := { x with line := 0, sb := bits, su := p0, sk := p1 }) 8 (.int .i64 p1) rfl)
  have s1 := HB3.out.set (y := { x with line := 0, sb := bits }) 6 (.int .i64 bits) rfl
  have s2 := s1.set (y := { x with line := 0, sb := bits, su := p0 }) 7 (.int .i64 p0) rfl
  have HO4 := Lib.hid (own_fr (own_fr (own_fr HO3.out (set_ty HB3.out.rm.blk 6 (.int .i64 bits)) rfl) (set_ty s1.rm.blk 7 (.int .i64 p0)) rfl) (set_ty s2.rm.blk 8 (.int .i64 p1)) rfl)
  clear s1 s2
  go_upto_region 5 with (fail)
  clear t0 t1 t2 c6 c7 c8 f HB3 HO3 l0 l1
  generalize ((w3.setCell ⟨b, 6, none⟩ (.int .i64 bits)).setCell ⟨b, 7, none⟩ (.int .i64 p0)).setCell ⟨b, 8, none⟩ (.int .i64 p1) = w4 at *
  have hnw := rhnew HO4.out HLL.out HLE.out
  have HS4 := Lib.hid (show w.heap.size ≤ w4.heap.size from HB4.out.fx.size)
  go_upto_region 6 with (go_at_call 168; refine hnw.mono ?_; intro e w5 hh; obtain ⟨hb, hh1, hh2, b5⟩ := hh; subst hh1; have HB5 := Lib.hid (HB4.out.below b5); have HH5 := Lib.hid (hh2.lower HS4.out); have c5 := HB5.out.rm.c.2.2.2.2.2.1; have f5 := HB5.out.rm.f 5; clear hh2 b5 hnw)
  have HB6 := Lib.hid (HB5.out.set (y := { x with line := 0, sb := bits, su := p0, sk := p1, hops := some ⟨hb, 0, none⟩ }) 5 (.pointer (some ⟨hb, 0, none⟩)) rfl)
  have HH6 := Lib.hid (HH5.out.fr (set_ty HB5.out.rm.blk 5 (.pointer (some ⟨hb, 0, none⟩))) rfl rfl rfl rfl rfl)
  clear c5 f5 HB5 HH5
  generalize w5.setCell ⟨b, 5, none⟩ (.pointer (some ⟨hb, 0, none⟩)) = w6 at *
  have c5 := HB6.out.rm.c.2.2.2.2.2.1
  have c5 : w6.cell? ⟨b, 5, none⟩ = some (.pointer (some ⟨hb, 0, none⟩)) := c5
  have hln := HH6.out.line
  obtain ⟨q, hq⟩ : ∃ q, q = (hpnew L).rln := ⟨_, rfl⟩
  rw [← hq] at hln
  by_cases hr : r = []
  · have hz : L.length - 1 = 0 := HR0.out.1 hr
    have hq0 : q = 0 := by rw [hq]; unfold HP.rln hpnew; rw [if_pos hz]
    rw [hq0] at hln
    have HR := Lib.hid hr
    clear hr hz hq hq0
    have c9 := HB6.out.rm.c.2.2.2.2.2.2.2.2.2
    have f9 := HB6.out.rm.f 9
    go_wp2_with (fail)
    go_end0
    refine ⟨rfl, hb, ?_, ?_⟩
    · have e : x.fnd bits (p0, p1) r hb = { x with line := 0, sb := bits, su := p0, sk := p1, hops := some ⟨hb, 0, none⟩, is := true } := by unfold RR.fnd; rw [if_pos HR.out, if_pos HR.out]
      rw [e]
      exact HB6.out.set 9 (.bool true) rfl
    · rw [← HL.out]
      exact HH6.out.fr (set_ty HB6.out.rm.blk 9 (.bool true)) rfl rfl rfl rfl rfl
  · have hz : ¬ L.length - 1 = 0 := fun c => hr (HR0.out.2 c)
    have hq0 : q = 1 := by rw [hq]; unfold HP.rln hpnew; rw [if_neg hz]; rfl
    rw [hq0] at hln
    have HR := Lib.hid hr
    clear hr hz hq hq0
    have c0 := HB6.out.rm.c.1
    have f0 := HB6.out.rm.f 0
    go_wp2_with (fail)
    refine bodyPost_ret (v := .tuple #[]) (by simp [results, Tryz.results116, go_sem]) rfl ⟨rfl, ?_⟩
    refine ⟨hb, ?_, ?_⟩
    · have e : x.fnd bits (p0, p1) r hb = { x with line := 4, sb := bits, su := p0, sk := p1, hops := some ⟨hb, 0, none⟩ } := by unfold RR.fnd; rw [if_neg HR.out, if_neg HR.out]
      rw [e]
      exact HB6.out.set 0 (.int .i64 4) rfl
    · rw [← HL.out]
      exact HH6.out.fr (set_ty HB6.out.rm.blk 0 (.int .i64 4)) rfl rfl rfl rfl rfl
end
end Go.Proofs.YtmakjfeepmiggaaGreat