import Derived.Test.YtmakjfeepmiggaaGreatZ38
import Derived.Test.YtmakjfeepmiggaaGreatZ42
namespace Go.Proofs.YtmakjfeepmiggaaGreat
open Go.RowKit Go.Maps TagPure
set_option linter.unusedVariables false
set_option maxRecDepth 10000 in
set_option maxHeartbeats 600000 in
theorem look_wayM {w0 w : World} {B : WB} {V : WV} {s : CS} {rb : Nat} {x : RM} (h : WS w0 w B V s) (hr : s.room) (hx : RoomAt w w0.heap.size rb x) (c : Int) (r : List Int) (hl : x.l = c :: r) (hr0 : r = []) (hf0 : frW (s.val (tagsA x.bits c)) = -1) (hab : (0 ≤ x.a ∧ x.a < tsize x.bits) ∧ 0 ≤ x.b ∧ x.b < tsize x.bits) :
    Calls Tryz.prog 109 #[.pointer (some ⟨rb, 0, none⟩), .pointer (some ⟨B.wb, 0, none⟩)] w fun e w' => e = .returned (.tuple #[]) ∧ ∃ xb kb m, RSB w0 w w' B V (s.acc 1 (tagsA x.bits c) (s.val (tagsA x.bits c))) [rb] rb { x with l := [], way := some ⟨xb, 0, none⟩, ph := .search } xb m (wnew x.bits V.c.way x.a x.b kb m) ∧ w.heap.size ≤ m := by
  have hB : RMB w0 w w B V s rb x := ⟨h, hx, ((below_fr (Below.refl _ _) wTy true).fx rb)⟩
  obtain ⟨v, hv⟩ : ∃ v, v = s.val (tagsA x.bits c) := ⟨_, rfl⟩
  have hvb := wf_bd (h.own.wf (tagsA x.bits c))
  have hll : r.length ≤ 10 := by rw [hr0]; decide
  have hfin : True := trivial
  have hgo : True := trivial
  have HR0 := Lib.hid hr0; have HAB := Lib.hid hab
  rw [← hv] at hvb hf0 ⊢
  have HF0 := Lib.hid hf0
  obtain ⟨A, hA⟩ : ∃ A, A = tagsA x.bits c := ⟨_, rfl⟩
  have hTG := fun W => tags_any x.bits c W
  have hAw : (Lit.int .u64 A).wf = true := by rw [hA]; exact tagsA_wf _ _
  rw [← hA] at hTG hv ⊢
  obtain ⟨l0, u, b1, b2⟩ := hx
  rw [hl] at b2
  obtain ⟨g, o, k, rfl, hc, hrk, hkm, hpop⟩ := sli_pop b2
  obtain ⟨c0, -⟩ := hB.rm.c
  have c1 : w.cell? ⟨rb, 1, none⟩ = some (.slice (some ⟨g, o, none⟩) (r.length + 1) (k + 1)) := hcell b1 1
  have f1 := hfrz b1 1
  obtain ⟨bits, hbt⟩ : ∃ bits, bits = x.bits := ⟨_, rfl⟩
  rw [← hbt] at c0 hTG
  unfold maxLen at hkm
  have hkm2 : (k : Int) + 1 ≤ 9223372036854775807 := by omega
  have al : ∀ (ob : Obj) {q j : Nat} {u : Value}, w.cell? ⟨q, j, none⟩ = some u → (w.alloc ob).cell? ⟨q, j, none⟩ = some u := fun ob q j u hu => by rw [World.cell?_alloc_past _ _ _ (World.block_lt_of_cell? _ _ hu)]; exact hu
  have c0' := fun ob => al ob c0
  have c1' := fun ob => al ob c1
  have hc' := fun ob => al ob hc
  have HB := Lib.hid hB; have HV := Lib.hid hv; have HVB := Lib.hid hvb; have HFIN := Lib.hid hfin; have HGO := Lib.hid hgo; have HAW := Lib.hid hAw; have HR := Lib.hid hr; have HPOP := Lib.hid hpop; have HL := Lib.hid hl; have HLL := Lib.hid hll; have HRK := Lib.hid hrk; have HBT := Lib.hid hbt; have HC1 := Lib.hid c1
  clear h hr hl hll hgo hr0 hf0 hab hB hv hvb hfin hA hAw b1 b2 hpop hrk hbt al f1 l0
  go_enter Tryz.func109, Tryz.ntmps109
  go_upto_region 0 with (fail)
  go_region
  go_upto_region 1 with (fail)
  have n1 : (w.alloc (.cells #[.int .i64 bits, .int .i64 c] 69)).drew.heap[w.heap.size]? = some (.cells #[.int .i64 bits, .int .i64 c] 69 (0, 0)) := heap_alloc_new w (.cells #[.int .i64 bits, .int .i64 c] 69)
  have k1 := (below_alloc w (.cells #[.int .i64 bits, .int .i64 c] 69)).drew
  have HB2 := Lib.hid (HB.out.below k1); have N1 := Lib.hid n1
  have HPOP2 := Lib.hid (HPOP.out.fr (below_fr k1 (fun _ => false) false) rfl)
  have c12 : (w.alloc (.cells #[.int .i64 bits, .int .i64 c] 69)).drew.cell? ⟨rb, 1, none⟩ = some (.slice (some ⟨g, o, none⟩) (r.length + 1) (k + 1)) := (k1.cell (World.block_lt_of_cell? _ _ HC1.out)).trans HC1.out
  have f12 := HB2.out.rm.f 1
  clear n1 k1 c0 c1 hc c0' c1' hc' HB HPOP HC1
  generalize (w.alloc (.cells #[.int .i64 bits, .int .i64 c] 69)).drew = w2 at *
  obtain ⟨nb, hnb⟩ : ∃ nb, nb = w.heap.size := ⟨_, rfl⟩
  rw [← hnb] at N1
  try simp only [← hnb]
  clear hnb
  have HB3 := Lib.hid (HB2.out.setl HPOP2.out)
  have HN3 := Lib.hid ((set_ty (show w2.heap[rb]? = some (.cells _ 206 (0, 0)) from HB2.out.rm.blk.choose_spec) 1 (.slice (some ⟨g, if k = 0 then o else o + 1, none⟩) r.length k)).cells _ _ _ _ N1.out rfl)
  clear HB2 HPOP2 N1
  go_cut [22] (fun v22 wx => RMB w0 w wx B V s rb { x with l := r } ∧ wx.heap[nb]? = some (.cells #[.int .i64 bits, .int .i64 c] 69 (0, 0)))
  case first =>
    have hkm3 : ¬ ((k : Int) + 1 = 0) := by omega
    rcases k with _ | k
    · go_wp2_with (fail)
      go_meet
      have h3 := HB3.out
      have n3 := HN3.out
      rw [if_pos trivial] at h3 n3
      exact ⟨h3, n3⟩
    · go_wp2_with (fail)
      go_meet
      have h3 := HB3.out
      have n3 := HN3.out
      rw [if_neg (Nat.succ_ne_zero k)] at h3 n3
      exact ⟨h3, n3⟩
  case rest =>
    obtain ⟨h3, n3⟩ := hcut
    have HB4 := Lib.hid h3; have N4 := Lib.hid n3
    clear h3 n3 HB3 HN3 c12 f12
    generalize wc = w3 at *
    have hb0 : Below w3.heap.size w3 w3.drew := (Below.refl _ _).drew
    have HB5 := Lib.hid (HB4.out.below hb0); have N5 : Hid (w3.drew.heap[nb]? = some (.cells #[.int .i64 bits, .int .i64 c] 69 (0, 0))) := N4.out
    have s1 : TLk nb B.wb B.cb bits c w3.drew := ⟨HB5.out.ws.c0, hcell N5.out 0, hcell N5.out 1⟩
    have hfree := fun W => free_any v W HVB.out.1 HVB.out.2
    have hfe : freeFrom v 0 4 = frW v := rfl
    rw [hfe] at hfree
    clear hfe hb0
    go_upto_region 2 with (fail)
    go_region_held2 (fun W => TLk nb B.wb B.cb bits c W) (assumption) (first
      | (go_at_call 42; refine (hTG _).mono ?_; intro e w4 hh; obtain ⟨hh1, b4⟩ := hh; subst hh1; have HB6 := Lib.hid (HB5.out.below b4); have n6 := (b4.block _ (Array.getElem?_eq_some_iff.1 N5.out).1).trans N5.out; have N6 := Lib.hid n6; have s4 : TLk nb B.wb B.cb bits c w4 := ⟨HB6.out.ws.c0, hcell N6.out 0, hcell N6.out 1⟩; have hld := HB6.out.ws.load HR.out A HAW.out; rw [← HV.out] at hld; clear b4 n6 s1 HB5 N5 hTG)
      | (go_at_call 62; refine hld.mono ?_; intro e w5 hh; obtain ⟨hh1, h5, f5⟩ := hh; subst hh1; have HB7 := Lib.hid (HB6.out.move h5 f5); have N7 := Lib.hid (f5.cells _ _ _ _ N6.out rfl); have s5 : TLk nb B.wb B.cb bits c w5 := ⟨HB7.out.ws.c0, hcell N7.out 0, hcell N7.out 1⟩; clear h5 f5 hld s4 HB6 N6)
      | (go_at_call 63; refine (hfree _).mono ?_; intro e w6 hh; obtain ⟨hh1, b6⟩ := hh; subst hh1; have HB8 := Lib.hid (HB7.out.below b6); have n8 := (b6.block _ (Array.getElem?_eq_some_iff.1 N7.out).1).trans N7.out; have N8 := Lib.hid n8; have s6 : TLk nb B.wb B.cb bits c w6 := ⟨HB8.out.ws.c0, hcell N8.out 0, hcell N8.out 1⟩; clear b6 n8 hfree s5 HB7 N7))
    clear s6 HB4 N4
    rw [HF0.out]
    have hr := HR0.out
    subst hr
    obtain ⟨_, ur, ub, ⟨ua, uc, hua, -⟩⟩ := HB8.out.rm
    have c1 : w6.cell? ⟨rb, 1, none⟩ = some (.slice ua 0 uc) := by have h := hcell ub 1; rw [hua] at h; exact h
    clear ub hua
    go_upto_region 6 with (fail)
    have hB8 := HB8.out
    obtain ⟨c0, c2, c3, c4, c5, -⟩ := hB8.rm.c
    have d0 : w6.cell? ⟨rb, 0, none⟩ = some (.int .i64 bits) := by have h := c0; rw [show ({ x with l := [] } : RM).bits = bits from HBT.out.symm] at h; exact h
    have d2 : w6.cell? ⟨rb, 2, none⟩ = some (.int .i64 x.a) := c2
    have d3 : w6.cell? ⟨rb, 3, none⟩ = some (.int .i64 x.b) := c3
    have d7 : w6.cell? ⟨B.wb, 7, none⟩ = some (.int .i64 V.c.way) := (hB8.ws.cell 7).trans rfl
    have hB9 := hB8.below (show Below w6.heap.size w6 w6.drew from (Below.refl _ _).drew)
    have HB9 := Lib.hid hB9
    have s6 : TNw rb B.wb bits x.a x.b V.c.way w6.drew := ⟨d0, d2, d3, d7⟩
    have nw := newway_ok (bits := bits) (most := V.c.way) (a := x.a) (b := x.b) (by rw [HBT.out]; exact HAB.out.1) (by rw [HBT.out]; exact HAB.out.2) w6.drew
    clear c0 c2 c3 d0 d2 d3 d7 hB8 hB9 c1 c5
    go_region_held2 (fun W => TNw rb B.wb bits x.a x.b V.c.way W) (first | assumption | exact s8 _) (first
      | (go_at_call 10; with_reducible refine nw.mono ?_; intro e w7 hh; obtain ⟨xb, kb, m, hh1, a7, b7, m7, k7⟩ := hh; subst hh1; have HBA := Lib.hid (HB9.out.below b7); have A7 := Lib.hid a7; have M7 := Lib.hid (And.intro m7 k7); have BS7 := Lib.hid (way_fresh HB9.out.ws b7 m7); have s7 : TNw rb B.wb bits x.a x.b V.c.way w7 := HBA.out.tnw HBT.out.symm; have s8 : ∀ v, TNw rb B.wb bits x.a x.b V.c.way (w7.setCell ⟨rb, 5, none⟩ v) := fun v => HBA.out.tnw5 HBT.out.symm v; have ff := HBA.out.rm.f; obtain ⟨-, -, -, c4, c5, -⟩ := HBA.out.rm.c; clear b7 a7 m7 k7 s6 nw))
    obtain ⟨kk, e7⟩ := HBA.out.rm.blk
    have R8 := Lib.hid (HBA.out.set (y := { x with l := [], way := some ⟨xb, 0, none⟩ }) 5 (.pointer (some ⟨xb, 0, none⟩)) rfl (fun _ => rfl))
    obtain ⟨kj, e8⟩ := R8.out.rm.blk
    have W8 := A7.out.fr (set_ty e7 5 (.pointer (some ⟨xb, 0, none⟩))) room_not_y
    have R9 := Lib.hid (R8.out.set (y := { x with l := [], way := some ⟨xb, 0, none⟩, ph := .search }) 4 (.func (.func 167) #[] #[]) rfl (fun _ => rfl))
    have W9 := Lib.hid ((W8.fr (set_ty e8 4 (.func (.func 167) #[] #[])) room_not_y).lower HB9.out.ws.below.size)
    have B9 := Lib.hid (besd_set (besd_set BS7.out HBA.out.ws e7 5 (.pointer (some ⟨xb, 0, none⟩))) R8.out.ws e8 4 (.func (.func 167) #[] #[]))
    have hz := HB9.out.fx.size
    have hlow := A7.out.low
    have hkb := M7.out.2
    have hmm := M7.out.1
    clear s7 s8 e7 e8 W8
    go_wp2_with (fail)
    have hfin : RSB w0 w _ B V (s.acc 1 A v) [rb] rb { x with l := [], way := some ⟨xb, 0, none⟩, ph := .search } xb m (wnew bits V.c.way x.a x.b kb m) := ⟨R9.out.ws, R9.out.rm, W9.out, B9.out, R9.out.fx.fs (List.mem_singleton.2 rfl), by
      rintro k (rfl | rfl | rfl)
      · exact .inl (List.mem_singleton.2 rfl)
      · exact .inr (Nat.le_trans hz hlow)
      · exact .inr (Nat.le_trans hz hkb)⟩
    go_end0
    rw [HBT.out] at hfin
    exact ⟨rfl, xb, kb, m, hfin, Nat.le_trans hz hmm⟩
end Go.Proofs.YtmakjfeepmiggaaGreat
namespace Go.Proofs.YtmakjfeepmiggaaGreat
open Go.RowKit Go.Maps TagPure
set_option linter.unusedVariables false
theorem RWayAt.other {w : World} {lo b kr kb m : Nat} {bits most a b2 : Int} (h : RWayAt w lo b kr (wnew bits most a b2 0 0)) : RWayAt w lo b kr (wnew bits most a b2 kb m) := ⟨h.low, h.ex⟩
section
variable {w0 w w1 : World} {B R : WB} {V : WV} {s : CS} {x : RS} {m : Nat} {o : PO RPd} {S : Nat → Prop}
theorem rmtwo_found (h : DPS w0 w B R V s x m) (hm : m ≤ 1000) (ho : RmP w w0.heap.size o S) (hp : o.a.x.ph = .look) (c : Int) (r : List Int) (hl : o.a.x.l = c :: r) (hrl : r.length ≤ 10) (hf : frW (s.val (tagsA o.a.x.bits c)) ≠ -1)
    (hd : Calls Tryz.prog 36 #[.pointer (some ⟨o.rb, 0, none⟩), .pointer (some ⟨R.wb, 0, none⟩)] w fun e w' => e = .returned (.tuple #[]) ∧ RRB w0 w w' R V (x.acc 1 (tagsA o.a.x.bits c) (s.val (tagsA o.a.x.bits c))) o.rb (o.a.y.free c (s.val (tagsA o.a.x.bits c)))) : RmTwo w0 w B R V m o S := by
  have hg := ho.geo (by rw [hp]; decide)
  have ex : o.a.x.look (s.val (tagsA o.a.x.bits c)) = { o.a.x with l := r, sb := o.a.x.bits, su := c, sk := frW (s.val (tagsA o.a.x.bits c)), is := true, ph := .off } := by unfold RM.look; rw [hl]; simp only; rw [if_neg hf]
  have ey : o.a.y.free c (s.val (tagsA o.a.x.bits c)) = { o.a.y with sb := o.a.y.bits, su := c, sk := frW (s.val (tagsA o.a.x.bits c)), is := true, line := 0 } := by unfold RR.free; rw [if_neg hf]
  have hgo : 0 ≤ frW (s.val (tagsA o.a.x.bits c)) := by rcases frW_nn (s.val (tagsA o.a.x.bits c)) with e | e; exact absurd e hf; exact e
  refine rmtwo_look h hm ho hp c r hl hrl (.inl hgo) _ hd (fun wX hX hY => ?_) ?_ ?_
  · refine rm_none hX hY ?_ ?_ ?_
    · simp only; rw [ex]
    · simp only; rw [ey]
    · simp only; rw [ex, ey]; exact ⟨rfl, fun _ => ⟨hg.yb, rfl, rfl⟩⟩
  · rw [ex]; exact .inr rfl
  · rw [ex, ey]; rfl
theorem rmtwo_next (h : DPS w0 w B R V s x m) (hm : m ≤ 1000) (ho : RmP w w0.heap.size o S) (hp : o.a.x.ph = .look) (hab : o.a.x.b ≠ o.a.x.a) (hl : o.a.x.l = [o.a.x.a, o.a.x.b]) (hf : frW (s.val (tagsA o.a.x.bits o.a.x.a)) = -1)
    (hd : Calls Tryz.prog 36 #[.pointer (some ⟨o.rb, 0, none⟩), .pointer (some ⟨R.wb, 0, none⟩)] w fun e w' => e = .returned (.tuple #[]) ∧ RRB w0 w w' R V (x.acc 1 (tagsA o.a.x.bits o.a.x.a) (s.val (tagsA o.a.x.bits o.a.x.a))) o.rb { o.a.y with line := 2 }) : RmTwo w0 w B R V m o S := by
  have hg := ho.geo (by rw [hp]; decide)
  have ex : o.a.x.look (s.val (tagsA o.a.x.bits o.a.x.a)) = { o.a.x with l := [o.a.x.b] } := by unfold RM.look; rw [hl]; simp only; rw [if_pos hf]
  refine rmtwo_look h hm ho hp o.a.x.a [o.a.x.b] hl (by simp) (.inr (by simp)) _ hd (fun wX hX hY => ?_) ?_ ?_
  · rw [ex] at hX ⊢
    exact ⟨hX, hY, ho.is, fun _ => ⟨hg.bits, hg.yb, hg.ya, hg.yb2, hg.a, hg.b⟩, fun c => (by simp only at c; rw [hp] at c; cases c), fun _ => .inr ⟨rfl, rfl⟩, fun c => (by simp only at c; rw [hp] at c; cases c), fun c => (by simp only at c; rw [hp] at c; cases c), rfl⟩
  · rw [ex]; exact .inl hp
  · rw [ex]; simp only; rw [hp]; rfl
theorem rmtwo_srch (h : DPS w0 w B R V s x m) (hm : m ≤ 1000) (ho : RmP w w0.heap.size o S) (hp : o.a.x.ph = .look) (c : Int) (hl : o.a.x.l = [c]) (hf : frW (s.val (tagsA o.a.x.bits c)) = -1)
    (hd : Calls Tryz.prog 36 #[.pointer (some ⟨o.rb, 0, none⟩), .pointer (some ⟨R.wb, 0, none⟩)] w fun e w' => e = .returned (.tuple #[]) ∧ RSrch w0 w w' R V (x.acc 1 (tagsA o.a.x.bits c) (s.val (tagsA o.a.x.bits c))) o.rb o.a.y 0 0) : RmTwo w0 w B R V m o S := by
  have hg := ho.geo (by rw [hp]; decide)
  obtain ⟨rm1, rm2⟩ := far_rooms h.far h.pr.al (by omega)
  have hlo : w0.heap.size ≤ w.heap.size := h.pr.ws.below.size
  refine ⟨fun y' w1 => ∃ wb kr, y' = o.a.y.srch wb ∧ RRB w0 w w1 R V (x.acc 1 (tagsA o.a.x.bits c) (s.val (tagsA o.a.x.bits c))) o.rb (o.a.y.srch wb) ∧ RWayAt w1 w.heap.size wb kr (wnew o.a.x.bits V.c.way o.a.x.a o.a.x.b 0 0) ∧ w.heap.size ≤ kr, ?_, ?_, ?_, ?_⟩
  · refine hd.mono fun e w' hh => ⟨hh.1, ?_⟩
    obtain ⟨-, wb, kr, h1, h2, h3⟩ := hh
    rw [hg.yb, hg.ya, hg.yb2] at h2
    exact ⟨_, wb, kr, rfl, h1, h2, h3⟩
  · rintro y' w1 ⟨wb, kr, rfl, hB, -, -⟩
    exact ⟨hB.rm, (rm_fr1 ho hB.fx).1⟩
  · rintro y' w1 w2 ⟨wb, kr, rfl, hB, hW, hk⟩ hb
    exact ⟨wb, kr, rfl, hB.below hb, hW.below hb, hk⟩
  · rintro y' w1 ⟨wb, kr, rfl, hB, hW, hk⟩
    obtain ⟨f1, f2⟩ := rm_fr1 ho hB.fx
    have hws := h.pr.ws.fr f2 w_not_qr hB.rd.below
    have hp1 := ho.p.fr f2 rfl rfl
    have hlk := look_wayM hws rm1 hp1.at_ c [] hl rfl hf ⟨hg.a, hg.b⟩
    refine (rmstep_lookd hp1.at_ hp false (Q := fun w2 => ∃ xb kb mm, RSB w0 w1 w2 B V (s.acc 1 (tagsA o.a.x.bits c) (s.val (tagsA o.a.x.bits c))) [o.pb] o.pb { o.a.x with l := [], way := some ⟨xb, 0, none⟩, ph := .search } xb mm (wnew o.a.x.bits V.c.way o.a.x.a o.a.x.b kb mm) ∧ w1.heap.size ≤ mm) hlk (fun w2 ⟨xb, kb, mm, h2, _⟩ => ⟨_, _, h2.rm, decide_eq_false (fun c => by cases c)⟩)).mono fun e w2 hh => ?_
    obtain ⟨h1, xb, kb, mm, h2, hmm⟩ := hh
    obtain ⟨cs, e1⟩ := hp1.at_.blk
    have g2 : Fr (fun X => wTy X || kPr X) true w1 w2 := h2.fs.ty (fun k hk => by obtain rfl := List.mem_singleton.1 hk; exact ⟨_, _, _, e1, rfl⟩)
    have hrd2 := hB.rd.fr g2 r_not_qp h2.ws.below
    have hW2 := ((hW.fr g2 ry_not_qp).lower hlo).other (kb := kb) (m := mm)
    obtain ⟨es, cl, em⟩ := (h2.wy.mp mm rfl).2.blk
    have hs1 : w.heap.size ≤ w1.heap.size := f1.size
    have hP : RmP w2 w0.heap.size ⟨o.pb, o.rb, { o.a with x := { o.a.x with l := [], way := some ⟨xb, 0, none⟩, ph := .search }, y := o.a.y.srch wb, xb := xb, rwb := wb, kr := kr, wy := wnew o.a.x.bits V.c.way o.a.x.a o.a.x.b kb mm }⟩ (rmSet ⟨o.pb, o.rb, { o.a with x := { o.a.x with l := [], way := some ⟨xb, 0, none⟩, ph := .search }, y := o.a.y.srch wb, xb := xb, rwb := wb, kr := kr, wy := wnew o.a.x.bits V.c.way o.a.x.a o.a.x.b kb mm }⟩) :=
      ⟨room_atB h2.rm rfl _, hB.rm.fr g2 rfl, ho.is, fun _ => ⟨hg.bits, hg.yb, hg.ya, hg.yb2, hg.a, hg.b⟩, fun c => (by simp only at c; cases c), fun c => (by simp only at c; cases c), fun _ => ⟨rfl, rfl, rfl, rfl, h2.wy, hW2, wnew_ok2 hg.bits hg.a hg.b, rfl, slt_first _ _⟩, fun c => (by simp only at c; cases c), rfl⟩
    refine ⟨h1, _, { V with fm := (mm, es, cl) :: V.fm }, _, _, _, rfl, h.nxa _ _ _ (h2.ws.more em h2.bs.ne) hrd2, hP, ?_, ?_, ?_⟩
    · intro k es2 cl2 hk he
      rcases (rm_blk hP hk).2 with ⟨cs, T, fr, e, -⟩ | ⟨-, c, -⟩
      · rw [he] at e; cases e
      · have c : some mm = some k := c
        cases c
        rw [em] at he
        simp only [Option.some.injEq, Obj.map.injEq] at he
        obtain ⟨rfl, rfl⟩ := he
        exact List.mem_cons_self
    · intro k hk
      rcases hk with e | e | ⟨c1, -⟩ | ⟨-, e⟩ | ⟨c1, -⟩
      · exact .inl (rm_S ho (.inl e))
      · exact .inl (rm_S ho (.inr (.inl e)))
      · exact absurd rfl c1
      · have own : ∀ k, (k = xb ∨ k = kb) → S k ∨ w.heap.size ≤ k := fun k hk => by
          rcases h2.own k (hk.elim (fun e => .inr (.inl e)) (fun e => .inr (.inr e))) with e | e
          · exact .inl (rm_S ho (.inl (List.mem_singleton.1 e)))
          · exact .inr (Nat.le_trans hs1 e)
        rcases e with e | e | e | e | e
        · exact own k (.inl e)
        · exact .inr (by have := hW.low; simp only at e; omega)
        · exact own k (.inr e)
        · exact .inr (by simp only at e; omega)
        · have e : some mm = some k := e
          cases e
          exact .inr (Nat.le_trans hs1 hmm)
      · cases c1
    · exact ofr_of f1 h2.fs (fun k hk => by obtain rfl := List.mem_singleton.1 hk; exact .inl (rm_S ho (.inl rfl))) (h2.ws.more em h2.bs.ne) fun q hq _ => List.mem_cons_of_mem _ hq
theorem rmtwo_looks (h : DPS w0 w B R V s x m) (hm : m ≤ 1000) (ho : RmP w w0.heap.size o S) (hp : o.a.x.ph = .look) : RmTwo w0 w B R V m o S := by
  have hg := ho.geo (by rw [hp]; decide)
  obtain ⟨rm1, rm2⟩ := far_rooms h.far h.pr.al (by omega)
  have hvb : ∀ a, 0 ≤ s.val a ∧ s.val a < 18446744073709551616 := fun a => wf_bd (h.pr.ws.own.wf a)
  have hvl : ∀ a, s.val a = rlook x.l a := fun a => by rw [h.pr.al.val]
  have ea : tagsA o.a.y.bits o.a.y.a = tagsA o.a.x.bits o.a.x.a := by rw [hg.yb, hg.ya]
  have eb : tagsA o.a.y.bits o.a.y.b = tagsA o.a.x.bits o.a.x.b := by rw [hg.yb, hg.yb2]
  have hok : (0 ≤ o.a.y.a ∧ o.a.y.a < tsize o.a.y.bits) ∧ 0 ≤ o.a.y.b ∧ o.a.y.b < tsize o.a.y.bits := by rw [hg.yb, hg.ya, hg.yb2]; exact ⟨hg.a, hg.b⟩
  rcases ho.look hp with ⟨hl1, hc⟩ | ⟨hl2, hc⟩
  · have hr1 : ∃ r, o.a.x.l = o.a.x.a :: r ∧ r.length ≤ 10 := by
      rcases hc with ⟨-, c⟩ | ⟨-, c⟩
      · exact ⟨_, c, by simp⟩
      · exact ⟨_, c, by simp⟩
    obtain ⟨r, hr, hrl⟩ := hr1
    by_cases hf : frW (s.val (tagsA o.a.x.bits o.a.x.a)) = -1
    · rcases hc with ⟨hab, hl⟩ | ⟨hab, hl⟩
      · have hd := rrstep1s 0 0 h.pr.rd rm2 ho.r hl1 (s.val (tagsA o.a.x.bits o.a.x.a)) (by rw [ea]; exact hvl _) (hvb _) hf (by rw [hg.ya, hg.yb2]; exact hab) hok
        rw [ea] at hd
        exact rmtwo_srch h hm ho hp _ hl hf hd
      · have hd := rrstep1n h.pr.rd rm2 ho.r hl1 (s.val (tagsA o.a.x.bits o.a.x.a)) (by rw [ea]; exact hvl _) (hvb _) hf (by rw [hg.ya, hg.yb2]; exact hab)
        rw [ea] at hd
        exact rmtwo_next h hm ho hp hab hl hf hd
    · have hd := rrstep1f h.pr.rd rm2 ho.r hl1 (s.val (tagsA o.a.x.bits o.a.x.a)) (by rw [ea]; exact hvl _) (hvb _) hf
      rw [ea, hg.ya] at hd
      exact rmtwo_found h hm ho hp _ r hr hrl hf hd
  · by_cases hf : frW (s.val (tagsA o.a.x.bits o.a.x.b)) = -1
    · have hd := rrstep2s 0 0 h.pr.rd rm2 ho.r hl2 (s.val (tagsA o.a.x.bits o.a.x.b)) (by rw [eb]; exact hvl _) (hvb _) hf hok
      rw [eb] at hd
      exact rmtwo_srch h hm ho hp _ hc hf hd
    · have hd := rrstep2f h.pr.rd rm2 ho.r hl2 (s.val (tagsA o.a.x.bits o.a.x.b)) (by rw [eb]; exact hvl _) (hvb _) hf
      rw [eb, hg.yb2] at hd
      exact rmtwo_found h hm ho hp _ [] hc (by simp) hf hd
end
end Go.Proofs.YtmakjfeepmiggaaGreat