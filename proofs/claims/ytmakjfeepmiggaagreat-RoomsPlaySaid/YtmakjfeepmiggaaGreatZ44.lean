import Derived.Test.YtmakjfeepmiggaaGreatZ43
import Derived.Test.YtmakjfeepmiggaaGreatZ20
namespace Go.Proofs.YtmakjfeepmiggaaGreat
open Go.RowKit Go.Maps TagPure
set_option linter.unusedVariables false
theorem RStp.below {w0 w w1 w2 : World} {R : WB} {V : WV} {xr : RS} {b : Nat} {y : RR} {L : List Nat} (h : RStp w0 w R V xr b y L w1) (hb : Below w1.heap.size w1 w2) : RStp w0 w R V xr b y L w2 := ⟨h.rd.keep hb, h.rm.below hb, h.fr.below hb⟩
section
variable {w0 w w1 : World} {B R : WB} {V : WV} {s : CS} {x : RS} {m : Nat} {o : PO RPd} {S : Nat → Prop}
theorem rm_frS (ho : RmP w w0.heap.size o S) (hp : o.a.x.ph = .search) (h : FR [o.rb, o.a.rwb, o.a.kr] w w1) : FRp S w w1 ∧ Fr (fun X => rTy X || kRf X) false w w1 := by
  have hs := ho.srch hp
  refine ⟨h.p (fun k hk => ?_), h.ty (fun k hk => ?_)⟩
  · simp only [List.mem_cons, List.not_mem_nil, or_false] at hk
    rcases hk with e | e | e
    · exact rm_S ho (.inr (.inl e))
    · exact rm_S ho (.inr (.inr (.inr (.inl ⟨hp, .inr (.inl e)⟩))))
    · exact rm_S ho (.inr (.inr (.inr (.inl ⟨hp, .inr (.inr (.inr (.inl e)))⟩))))
  · simp only [List.mem_cons, List.not_mem_nil, or_false] at hk
    rcases hk with rfl | rfl | rfl
    · exact ⟨_, _, _, ho.r.blk, rfl⟩
    · obtain ⟨cs, e⟩ := hs.r.blkB; exact ⟨_, _, _, e, rfl⟩
    · obtain ⟨-, cs, T, e, hT⟩ := hs.r.krB; exact ⟨_, _, _, e, by rcases hT with rfl | rfl <;> rfl⟩
structure RmSGo (w0 w w1 : World) (B : WB) (V : WV) (s : CS) (o : PO RPd) (S : Nat → Prop) (mb : Nat) : Prop where
  b : RSB w0 w1 w1 B { V with fm := V.fm.filter (fun q => q.1 != mb) } s [o.pb, o.a.xb, o.a.wy.kb] o.pb o.a.x o.a.xb mb o.a.wy
  mo : o.a.wy.mo = some mb
  mS : S mb
  fm : ∀ q ∈ V.fm, ¬ S q.1 → q ∈ V.fm.filter (fun q => q.1 != mb)
  mem : ∀ k ∈ [o.pb, o.a.xb, o.a.wy.kb], S k
  ty : ∀ k ∈ [o.pb, o.a.xb, o.a.wy.kb], ∃ cs T fr, w1.heap[k]? = some (.cells cs T fr) ∧ kPr T = true
theorem rm_go (h : DPS w0 w B R V s x m) (ho : RmP w w0.heap.size o S) (hmp : MapsIn w V S) (hp : o.a.x.ph = .search) (hf : Fr (fun X => rTy X || kRf X) false w w1) (hb : Below w0.heap.size w0 w1) : ∃ mb, RmSGo w0 w w1 B V s o S mb := by
  have hs := ho.srch hp
  obtain ⟨mb, hmb⟩ := hs.p.isMap hs.ok.made
  obtain ⟨es0, cl0, hm0⟩ := (hs.p.mp mb hmb).2.blk
  have hmS : S mb := rm_S ho (.inr (.inr (.inr (.inl ⟨hp, .inr (.inr (.inr (.inr hmb)))⟩))))
  have hin := hmp mb es0 cl0 hmS hm0
  have hws := h.pr.ws.fr hf w_not_qr hb
  have hne : w1.cell? ⟨B.cb, 0, none⟩ ≠ some (.map (some mb)) := (hws.fmk _ hin).2
  have hws1 : WS w0 w1 B { V with fm := V.fm.filter (fun q => q.1 != mb) } s := hws.less _ fun q hq => (List.mem_filter.1 hq).1
  have hbs : Besd w1 B { V with fm := V.fm.filter (fun q => q.1 != mb) } mb := ⟨hne, fun q hq => by simpa using (List.mem_filter.1 hq).2⟩
  have hp1 := ho.p.fr hf rfl rfl
  have hy1 := hs.p.fr hf y_not_qr
  refine ⟨mb, ⟨hws1, hp1.at_, hy1, hbs, FS.refl _ _, fun k hk => .inl (by rcases hk with rfl | rfl | rfl <;> simp)⟩, hmb, hmS, fun q hq hn => List.mem_filter.2 ⟨hq, by
    have : q.1 ≠ mb := fun e => hn (by rw [e]; exact hmS)
    simpa using this⟩, fun k hk => ?_, fun k hk => ?_⟩
  · simp only [List.mem_cons, List.not_mem_nil, or_false] at hk
    rcases hk with e | e | e
    · exact rm_S ho (.inl e)
    · exact rm_S ho (.inr (.inr (.inr (.inl ⟨hp, .inl e⟩))))
    · exact rm_S ho (.inr (.inr (.inr (.inl ⟨hp, .inr (.inr (.inl e))⟩))))
  · simp only [List.mem_cons, List.not_mem_nil, or_false] at hk
    rcases hk with rfl | rfl | rfl
    · obtain ⟨cs, e⟩ := hp1.at_.blk; exact ⟨_, _, _, e, rfl⟩
    · obtain ⟨cs, e⟩ := hy1.blkB; exact ⟨_, _, _, e, rfl⟩
    · obtain ⟨-, cs, T, e, hT⟩ := hy1.kbB; exact ⟨_, _, _, e, by rcases hT with rfl | rfl <;> rfl⟩
theorem rmtwo_on (h : DPS w0 w B R V s x m) (hm : m ≤ 1000) (ho : RmP w w0.heap.size o S) (hmp : MapsIn w V S) (hp : o.a.x.ph = .search) (hn : (o.a.wy.next (s.val (wyA o.a.wy))).over = false) : RmTwo w0 w B R V m o S := by
  have hs := ho.srch hp
  have hg := ho.geo (by rw [hp]; decide)
  obtain ⟨rm1, rm2⟩ := far_rooms h.far h.pr.al (by omega)
  have hvb : ∀ a, 0 ≤ s.val a ∧ s.val a < 18446744073709551616 := fun a => wf_bd (h.pr.ws.own.wf a)
  have hvl : ∀ a, s.val a = rlook x.l a := fun a => by rw [h.pr.al.val]
  have hnk : WyOk (o.a.wy.next (s.val (wyA o.a.wy))) := hs.ok.next (tab := fun _ => s.val (wyA o.a.wy)) hs.ov
  refine ⟨fun y' w1 => y' = o.a.y ∧ RS3 w0 w R V (x.acc 1 (wyA o.a.wy) (s.val (wyA o.a.wy))) o.rb o.a.rwb o.a.kr o.a.y (o.a.wy.next (s.val (wyA o.a.wy))) w1, ?_, ?_, ?_, ?_⟩
  · exact (rrstep3o h.pr.rd rm2 ho.r hs.line hs.r hs.yw hs.ok hs.ov _ (hvl _) (hvb _) hn hnk.made).mono fun e w' hh => ⟨hh.1, _, rfl, hh.2⟩
  · rintro y' w1 ⟨rfl, kr', hB, -, -⟩
    exact ⟨hB.rm, (rm_frS ho hp hB.fr).1⟩
  · rintro y' w1 w2 ⟨rfl, kr', hB, hW, hk⟩ hb
    exact ⟨rfl, kr', hB.below hb, hW.below hb, hk⟩
  · rintro y' w1 ⟨rfl, kr', hB, hW, hk⟩
    obtain ⟨f1, f2⟩ := rm_frS ho hp hB.fr
    obtain ⟨mb, hG⟩ := rm_go h ho hmp hp f2 hB.rd.below
    refine (rmstep_search hG.b.rm hp false (rmsearch_on hG.b rm1 hG.mo hs.ok hs.ov hs.l hs.xw hn) (fun w' ⟨kb, h2⟩ => ⟨_, _, h2.rm, by rw [hp]; rfl⟩)).mono fun e w2 hh => ?_
    obtain ⟨h1, kb, h2⟩ := hh
    have g2 := h2.fs.ty hG.ty
    have hrd2 := hB.rd.fr g2 r_not_qp h2.ws.below
    have hW2 := (hW.fr g2 ry_not_qp).setkb kb
    have hmo : (o.a.wy.next (s.val (wyA o.a.wy))).mo = some mb := (next_mo _ _).1.trans hG.mo
    obtain ⟨es, cl, em⟩ := (h2.wy.mp mb hmo).2.blk
    have hws2 := h2.ws.more em h2.bs.ne
    have hP : RmP w2 w0.heap.size ⟨o.pb, o.rb, { o.a with kr := kr', wy := { o.a.wy.next (s.val (wyA o.a.wy)) with kb := kb } }⟩ (rmSet ⟨o.pb, o.rb, { o.a with kr := kr', wy := { o.a.wy.next (s.val (wyA o.a.wy)) with kb := kb } }⟩) :=
      ⟨room_atB h2.rm hs.l _, hB.rm.fr g2 rfl, ho.is, fun _ => hg, fun c => (by simp only at c; rw [hp] at c; cases c), fun c => (by simp only at c; rw [hp] at c; cases c), fun _ => ⟨hs.line, hs.l, hs.xw, hs.yw, h2.wy, hW2, ⟨hnk.bits, hnk.win, hnk.ahead, hnk.at_, hnk.way, hnk.wayl, hnk.made⟩, hn, slt_next _ hs.sl⟩, fun c => (by simp only at c; rw [hp] at c; cases c), rfl⟩
    refine ⟨by rw [hs.line]; exact h1, { o.a with kr := kr', wy := { o.a.wy.next (s.val (wyA o.a.wy)) with kb := kb } }, { V with fm := (mb, es, cl) :: V.fm.filter (fun q => q.1 != mb) }, _, _, _, rfl, h.nxa _ _ _ hws2 hrd2, hP, ?_, ?_, ?_⟩
    · intro k es2 cl2 hk he
      rcases (rm_blk hP hk).2 with ⟨cs, T, fr, e, -⟩ | ⟨-, c, -⟩
      · rw [he] at e; cases e
      · have c : (o.a.wy.next (s.val (wyA o.a.wy))).mo = some k := c
        rw [hmo] at c
        cases c
        rw [em] at he
        simp only [Option.some.injEq, Obj.map.injEq] at he
        obtain ⟨rfl, rfl⟩ := he
        exact List.mem_cons_self
    · intro k hk
      rcases hk with e | e | ⟨c1, -⟩ | ⟨-, e⟩ | ⟨c1, -⟩
      · exact .inl (rm_S ho (.inl e))
      · exact .inl (rm_S ho (.inr (.inl e)))
      · exact absurd hs.l c1
      · have own : ∀ k, (k = o.a.xb ∨ k = kb) → S k ∨ w.heap.size ≤ k := fun k hk => by
          rcases h2.own k (hk.elim (fun e => .inr (.inl e)) (fun e => .inr (.inr e))) with e | e
          · exact .inl (hG.mem k e)
          · exact .inr (Nat.le_trans f1.size e)
        rcases e with e | e | e | e | e
        · exact own k (.inl e)
        · exact .inl (rm_S ho (.inr (.inr (.inr (.inl ⟨hp, .inr (.inl e)⟩)))))
        · exact own k (.inr e)
        · rcases hk with c | c
          · exact .inl (rm_S ho (.inr (.inr (.inr (.inl ⟨hp, .inr (.inr (.inr (.inl (e.trans c))))⟩)))))
          · exact .inr (by simp only at e; omega)
        · have e : (o.a.wy.next (s.val (wyA o.a.wy))).mo = some k := e
          rw [hmo] at e
          cases e
          exact .inl hG.mS
      · simp only at c1; rw [hp] at c1; cases c1
    · exact ofr_of f1 h2.fs (fun k hk => .inl (hG.mem k hk)) hws2 fun q hq hn2 => List.mem_cons_of_mem _ (hG.fm q hq hn2)
theorem rmtwo_full (h : DPS w0 w B R V s x m) (hm : m ≤ 1000) (ho : RmP w w0.heap.size o S) (hmp : MapsIn w V S) (hp : o.a.x.ph = .search) (hn : (o.a.wy.next (s.val (wyA o.a.wy))).over = true) (hwy : (o.a.wy.next (s.val (wyA o.a.wy))).way = []) : RmTwo w0 w B R V m o S := by
  have hs := ho.srch hp
  obtain ⟨rm1, rm2⟩ := far_rooms h.far h.pr.al (by omega)
  have hvb : ∀ a, 0 ≤ s.val a ∧ s.val a < 18446744073709551616 := fun a => wf_bd (h.pr.ws.own.wf a)
  have hvl : ∀ a, s.val a = rlook x.l a := fun a => by rw [h.pr.al.val]
  have hnn : V.nts.length < 1048576 := by have := h.nn; omega
  have hcn : (((x.acc 1 (wyA o.a.wy) (s.val (wyA o.a.wy))).cnt : Nat) : Int) = (s.cnt : Int) + 1 := by
    rw [← (h.pr.al.acc 1 (wyA o.a.wy) (s.val (wyA o.a.wy))).cnt]
    show ((s.cnt + 1 : Nat) : Int) = _
    push_cast; rfl
  have hst : Nsteps V.nts ((s.cnt : Int) + 1) := h.st.le (by omega)
  refine ⟨fun y' w1 => y' = { o.a.y with line := 0 } ∧ RStp w0 w R (noteFull V ((s.cnt : Int) + 1)) (x.acc 1 (wyA o.a.wy) (s.val (wyA o.a.wy))) o.rb { o.a.y with line := 0 } [o.rb, o.a.rwb, o.a.kr] w1, ?_, ?_, ?_, ?_⟩
  · have hd := rrstep3f h.pr.rd rm2 ho.r hs.line hs.r hs.yw hs.ok hs.ov _ (hvl _) (hvb _) hn hwy hnn (by rw [hcn]; exact hst)
    rw [hcn] at hd
    exact hd.mono fun e w' hh => ⟨hh.1, _, rfl, hh.2⟩
  · rintro y' w1 ⟨rfl, hB⟩
    exact ⟨hB.rm, (rm_frS ho hp hB.fr).1⟩
  · rintro y' w1 w2 ⟨rfl, hB⟩ hb
    exact ⟨rfl, hB.below hb⟩
  · rintro y' w1 ⟨rfl, hB⟩
    obtain ⟨f1, f2⟩ := rm_frS ho hp hB.fr
    obtain ⟨mb, hG⟩ := rm_go h ho hmp hp f2 hB.rd.below
    refine (rmstep_search hG.b.rm hp true (rmsearch_full hG.b rm1 hG.mo hs.ok hs.ov hs.l hs.xw hp hn hwy hnn hst) (fun w' h2 => ⟨_, _, h2.2.1, rfl⟩)).mono fun e w2 hh => ?_
    obtain ⟨h1, hws2, hr2, hfs⟩ := hh
    have g2 := hfs.ty hG.ty
    have hrd2 := hB.rd.fr g2 r_not_qp hws2.below
    have hP : RmP w2 w0.heap.size ⟨o.pb, o.rb, { o.a with x := { o.a.x with ph := .off }, y := { o.a.y with line := 0 } }⟩ (rmSet ⟨o.pb, o.rb, { o.a with x := { o.a.x with ph := .off }, y := { o.a.y with line := 0 } }⟩) :=
      rm_none (room_atB hr2 hs.l _) (hB.rm.fr g2 rfl) rfl rfl ho.is
    refine ⟨h1, _, { V with nts := nadd V.nts ⟨(s.cnt : Int) + 1, V.hd, 3, 0, 0, 0, 0, 0⟩, fm := V.fm.filter (fun q => q.1 != mb) }, _, _, _, rfl, h.nx hws2 ⟨hrd2.below, hrd2.ref, hrd2.blk, hrd2.lo, hrd2.ar, hrd2.nt, hrd2.tkl⟩ (h.pr.al.acc _ _ _) (h.far.acc h.pr.al _ _ _) rfl rfl (nadd_len V.nts ⟨(s.cnt : Int) + 1, V.hd, 3, 0, 0, 0, 0, 0⟩) ?_ (Nkinds.add (n := ⟨(s.cnt : Int) + 1, V.hd, 3, 0, 0, 0, 0, 0⟩) h.nk), hP, mapsin_ty hP (by simp only; decide), ?_, ?_⟩
    · have := hst.add (n := ⟨(s.cnt : Int) + 1, V.hd, 3, 0, 0, 0, 0, 0⟩) rfl
      show Nsteps _ (((s.cnt + 1 : Nat)) : Int)
      push_cast; exact this
    · intro k hk
      rcases hk with e | e | ⟨c1, -⟩ | ⟨c1, -⟩ | ⟨c1, -⟩
      · exact .inl (rm_S ho (.inl e))
      · exact .inl (rm_S ho (.inr (.inl e)))
      · exact absurd hs.l c1
      · cases c1
      · cases c1
    · exact ofr_of f1 hfs (fun k hk => .inl (hG.mem k hk)) hws2 fun q hq hn2 => hG.fm q hq hn2
theorem rmtwo_way (h : DPS w0 w B R V s x m) (hm : m ≤ 1000) (ho : RmP w w0.heap.size o S) (hmp : MapsIn w V S) (hp : o.a.x.ph = .search) (hn : (o.a.wy.next (s.val (wyA o.a.wy))).over = true) (p : Int × Int) (r : List (Int × Int)) (hwy : (o.a.wy.next (s.val (wyA o.a.wy))).way = p :: r) : RmTwo w0 w B R V m o S := by
  have hs := ho.srch hp
  have hg := ho.geo (by rw [hp]; decide)
  obtain ⟨rm1, rm2⟩ := far_rooms h.far h.pr.al (by omega)
  have hlo : w0.heap.size ≤ w.heap.size := h.pr.ws.below.size
  have hvb : ∀ a, 0 ≤ s.val a ∧ s.val a < 18446744073709551616 := fun a => wf_bd (h.pr.ws.own.wf a)
  have hvl : ∀ a, s.val a = rlook x.l a := fun a => by rw [h.pr.al.val]
  have hnk : WyOk (o.a.wy.next (s.val (wyA o.a.wy))) := hs.ok.next (tab := fun _ => s.val (wyA o.a.wy)) hs.ov
  have hwl : r.length ≤ 10000 := by have := hnk.wayl; rw [hwy, List.length_cons] at this; omega
  have hwf := slt_way (s.val (wyA o.a.wy)) hs.sl (hs.ok.way hs.ov)
  rw [hwy] at hwf
  have hwf3 := slt_way3 (o.a.wy.next (s.val (wyA o.a.wy))).bits hwf
  refine ⟨fun y' w1 => ∃ hb, y' = o.a.y.fnd (o.a.wy.next (s.val (wyA o.a.wy))).bits p r hb ∧ RStp w0 w R V (x.acc 1 (wyA o.a.wy) (s.val (wyA o.a.wy))) o.rb (o.a.y.fnd (o.a.wy.next (s.val (wyA o.a.wy))).bits p r hb) [o.rb, o.a.rwb, o.a.kr] w1 ∧ RHopsAt w1 w.heap.size hb (hpnew (way3 (o.a.wy.next (s.val (wyA o.a.wy))).bits (p :: r))) [], ?_, ?_, ?_, ?_⟩
  · refine (rrstep3w h.pr.rd rm2 ho.r hs.line hs.r hs.yw hs.ok hs.ov _ (hvl _) (hvb _) hn p r hwy hwl).mono fun e w' hh => ⟨hh.1, ?_⟩
    obtain ⟨-, hb, h1, h2⟩ := hh
    exact ⟨_, hb, rfl, h1, h2⟩
  · rintro y' w1 ⟨hb, rfl, hB, -⟩
    exact ⟨hB.rm, (rm_frS ho hp hB.fr).1⟩
  · rintro y' w1 w2 ⟨hb, rfl, hB, hH⟩ hbl
    exact ⟨hb, rfl, hB.below hbl, hH.below hbl⟩
  · rintro y' w1 ⟨rhb, rfl, hB, hH⟩
    obtain ⟨f1, f2⟩ := rm_frS ho hp hB.fr
    obtain ⟨mb, hG⟩ := rm_go h ho hmp hp f2 hB.rd.below
    refine (rmstep_search hG.b.rm hp (decide (r = [])) (rmsearch_way hG.b rm1 hG.mo hs.ok hs.ov hs.l hs.xw hp hn p r hwy hwl) (fun w' ⟨hb, h2⟩ => ⟨_, _, h2.rm, ?_⟩)).mono fun e w2 hh => ?_
    · unfold RM.found; simp only; split <;> rename_i c
      · rw [decide_eq_true c]; rfl
      · rw [decide_eq_false c]; rfl
    obtain ⟨h1, hb, h2⟩ := hh
    have g2 := h2.m.fs.ty hG.ty
    have hrd2 := hB.rd.fr g2 r_not_qp h2.m.ws.below
    have hH2 := (hH.fr g2 rfl rfl rfl rfl rfl).lower hlo
    have hrr := hB.rm.fr g2 rfl
    have hxl : (o.a.x.found (o.a.wy.next (s.val (wyA o.a.wy))).bits p r hb).l = [] := hs.l
    generalize (o.a.wy.next (s.val (wyA o.a.wy))).bits = bits at *
    have hpb := h2.m.own
    have hofr := ofr_of (V' := { V with fm := V.fm.filter (fun q => q.1 != mb) }) f1 h2.m.fs (fun k hk => .inl (hG.mem k hk)) h2.m.ws fun q hq hn2 => hG.fm q hq hn2
    have hdp := h.nxa _ _ _ h2.m.ws hrd2
    have hln : (((o.a.y.fnd bits p r rhb).line) == 0) = decide (r = []) := by
      unfold RR.fnd; simp only; split <;> rename_i c
      · rw [decide_eq_true c]; rfl
      · rw [decide_eq_false c]; rfl
    by_cases hr : r = []
    · have hph : (o.a.x.found bits p r hb).ph = .off := by unfold RM.found; simp only; rw [if_pos hr]
      have hP : RmP w2 w0.heap.size ⟨o.pb, o.rb, { o.a with x := o.a.x.found bits p r hb, y := o.a.y.fnd bits p r rhb }⟩ (rmSet ⟨o.pb, o.rb, { o.a with x := o.a.x.found bits p r hb, y := o.a.y.fnd bits p r rhb }⟩) := by
        refine rm_none (room_atB h2.rm hxl _) hrr hph ?_ ?_
        · show (o.a.y.fnd bits p r rhb).line = 0
          unfold RR.fnd; simp only; rw [if_pos hr]
        · show (o.a.y.fnd bits p r rhb).is = (o.a.x.found bits p r hb).is ∧ _
          unfold RR.fnd RM.found; simp only [if_pos hr]
          exact ⟨(by first | rfl | trivial), fun _ => ⟨(by first | rfl | trivial), (by first | rfl | trivial), (by first | rfl | trivial)⟩⟩
      refine ⟨by rw [hln]; exact h1, _, _, _, _, _, rfl, hdp, hP, mapsin_ty hP (by simp only; rw [hph]; decide), ?_, hofr⟩
      intro k hk
      rcases hk with e | e | ⟨c1, -⟩ | ⟨c1, -⟩ | ⟨c1, -⟩
      · exact .inl (rm_S ho (.inl e))
      · exact .inl (rm_S ho (.inr (.inl e)))
      · exact absurd hs.l c1
      · simp only at c1; rw [hph] at c1; cases c1
      · simp only at c1; rw [hph] at c1; cases c1
    · have hph : (o.a.x.found bits p r hb).ph = .hop := by unfold RM.found; simp only; rw [if_neg hr]
      have hll : (hpnew (way3 bits (p :: r))).left ≠ 0 := by
        show (way3 bits (p :: r)).length - 1 ≠ 0
        unfold way3
        rw [List.length_map, List.length_cons]
        cases r with
        | nil => exact absurd rfl hr
        | cons a t => simp
      have hP : RmP w2 w0.heap.size ⟨o.pb, o.rb, { o.a with x := o.a.x.found bits p r hb, y := o.a.y.fnd bits p r rhb, hb := hb, rhb := rhb, hp := hpnew (way3 bits (p :: r)), qs := [], rqs := [] }⟩ (rmSet ⟨o.pb, o.rb, { o.a with x := o.a.x.found bits p r hb, y := o.a.y.fnd bits p r rhb, hb := hb, rhb := rhb, hp := hpnew (way3 bits (p :: r)), qs := [], rqs := [] }⟩) := by
        refine ⟨room_atB h2.rm hxl _, hrr, ?_, fun _ => ⟨hg.bits, hg.yb, hg.ya, hg.yb2, hg.a, hg.b⟩, fun c => (by simp only at c; rw [hph] at c; cases c), fun c => (by simp only at c; rw [hph] at c; cases c), fun c => (by simp only at c; rw [hph] at c; cases c), fun _ => ⟨?_, hxl, rfl, rfl, h2.m.hp, hH2, hll, hwf3, ⟨rfl, rfl, rfl⟩⟩, rfl⟩
        · show (o.a.y.fnd bits p r rhb).is = (o.a.x.found bits p r hb).is ∧ _
          unfold RR.fnd RM.found; simp only [if_neg hr]
          exact ⟨ho.is.1, fun _ => ⟨(by first | rfl | trivial), (by first | rfl | trivial), (by first | rfl | trivial)⟩⟩
        · show (o.a.y.fnd bits p r rhb).line = 4
          unfold RR.fnd; simp only; rw [if_neg hr]
      refine ⟨by rw [hln]; exact h1, _, _, _, _, _, rfl, hdp, hP, mapsin_ty hP (by simp only; rw [hph]; decide), ?_, hofr⟩
      intro k hk
      rcases hk with e | e | ⟨c1, -⟩ | ⟨c1, -⟩ | ⟨-, e⟩
      · exact .inl (rm_S ho (.inl e))
      · exact .inl (rm_S ho (.inr (.inl e)))
      · exact absurd hs.l c1
      · simp only at c1; rw [hph] at c1; cases c1
      · rcases e with e | e | e | e
        · rcases hpb with c | c
          · exact .inl (hG.mem k (by rw [e]; exact c))
          · exact .inr (by have := f1.size; simp only at e; omega)
        · exact .inr (by have := hH.m.low; simp only at e; omega)
        · cases e
        · cases e
theorem rmtwo_searches (h : DPS w0 w B R V s x m) (hm : m ≤ 1000) (ho : RmP w w0.heap.size o S) (hmp : MapsIn w V S) (hp : o.a.x.ph = .search) : RmTwo w0 w B R V m o S := by
  cases hn : (o.a.wy.next (s.val (wyA o.a.wy))).over
  · exact rmtwo_on h hm ho hmp hp hn
  · cases hwy : (o.a.wy.next (s.val (wyA o.a.wy))).way with
    | nil => exact rmtwo_full h hm ho hmp hp hn hwy
    | cons p r => exact rmtwo_way h hm ho hmp hp hn p r hwy
end
end Go.Proofs.YtmakjfeepmiggaaGreat
namespace Go.Proofs.YtmakjfeepmiggaaGreat
open Go.RowKit Go.Maps TagPure
set_option linter.unusedVariables false
theorem on_way (x : HP) : x.on.way = x.way := by unfold HP.on; split <;> rfl
theorem next_way (s : CS) (x : HP) : (x.next s).2.way = x.way := by
  unfold HP.next
  split
  · exact on_way _
  · split
    · split
      · rfl
      · exact on_way _
    · rfl
end Go.Proofs.YtmakjfeepmiggaaGreat
namespace Go.Proofs.YtmakjfeepmiggaaGreat
open Go.RowKit Go.Maps TagPure
set_option linter.unusedVariables false
section
variable {w0 w w1 : World} {B R : WB} {V : WV} {s : CS} {x : RS} {m : Nat} {o : PO RPd} {S : Nat → Prop}
theorem rmtwo_hop (h : DPS w0 w B R V s x m) (hm : m ≤ 1000) (ho : RmP w w0.heap.size o S) (hp : o.a.x.ph = .hop) : RmTwo w0 w B R V m o S := by
  have hs := ho.hop hp
  have hg := ho.geo (by rw [hp]; decide)
  obtain ⟨rm1, rm2⟩ := far_rooms h.far h.pr.al (by omega)
  have hvb : ∀ a, 0 ≤ s.val a ∧ s.val a < 18446744073709551616 := fun a => wf_bd (h.pr.ws.own.wf a)
  have hlt : o.a.hp.left < o.a.hp.way.length := by rcases hs.r.lt with e | e; exact e; exact absurd e hs.left
  obtain ⟨hal, hfar, hcn⟩ := hop_al h.pr.al hs.left hlt
  obtain ⟨z, hz⟩ : ∃ z, z = (o.a.hp.next s).2 := ⟨_, rfl⟩
  have hzw : z.way = o.a.hp.way := by rw [hz]; exact next_way _ _
  have mem : ∀ k, (k = o.a.hb ∨ k = o.a.rhb ∨ k ∈ o.a.qs.map Prod.fst ∨ k ∈ o.a.rqs.map Prod.fst) → S k := fun k hk => rm_S ho (.inr (.inr (.inr (.inr ⟨hp, hk⟩))))
  have hfr : ∀ {w1 : World}, FR (o.rb :: o.a.rhb :: o.a.rqs.map Prod.fst) w w1 → FRp S w w1 ∧ Fr (fun X => rTy X || kRf X) false w w1 := fun hf => by
    refine ⟨hf.p (fun k hk => ?_), hf.ty (fun k hk => ?_)⟩
    · rcases List.mem_cons.1 hk with e | hk
      · exact rm_S ho (.inr (.inl e))
      · rcases List.mem_cons.1 hk with e | hk
        · exact mem k (.inr (.inl e))
        · exact mem k (.inr (.inr (.inr hk)))
    · rcases List.mem_cons.1 hk with rfl | hk
      · exact ⟨_, _, _, ho.r.blk, rfl⟩
      · rcases List.mem_cons.1 hk with rfl | hk
        · obtain ⟨cs, e⟩ := hs.r.m.blk; exact ⟨_, _, _, e, rfl⟩
        · obtain ⟨q, hq, rfl⟩ := List.mem_map.1 hk
          obtain ⟨cs, e⟩ := (hs.r.m.dos q hq).1.blk
          exact ⟨_, _, _, e, by rcases q.2.rty_or with c | c <;> rw [c] <;> rfl⟩
  refine ⟨fun y' w1 => y' = (if z.left = 0 then { o.a.y with is := true, line := 0 } else o.a.y) ∧ RS4 w0 w R V (o.a.hp.nextR s x) o.rb o.a.rhb o.a.y z o.a.rqs w1, ?_, ?_, ?_, ?_⟩
  · have hd := rrstep4 (s := s) h.pr.rd rm2 (by rw [h.pr.al.val]) hvb ho.r hs.line hs.r hs.yh hs.left hs.wf
    rw [← hz] at hd
    exact hd.mono fun e w' hh => ⟨hh.1, _, rfl, hh.2⟩
  · rintro y' w1 ⟨rfl, qs', hB, -, -⟩
    exact ⟨hB.rm, (hfr hB.fr).1⟩
  · rintro y' w1 w2 ⟨rfl, qs', hB, hH, hq⟩ hb
    exact ⟨rfl, qs', hB.below hb, hH.below hb, hq⟩
  · rintro y' w1 ⟨rfl, rqs', hB, hH, hrq⟩
    obtain ⟨f1, f2⟩ := hfr hB.fr
    have hws := h.pr.ws.fr f2 w_not_qr hB.rd.below
    have hp1 := ho.p.fr f2 rfl rfl
    have hh1 := hs.p.frT f2 rfl rfl rfl rfl rfl rfl rfl
    have hRH : RHB w0 w1 w1 B V s (o.pb :: o.a.hb :: o.a.qs.map Prod.fst) o.pb o.a.x o.a.hb o.a.hp o.a.qs :=
      ⟨⟨hws, hh1, FS.refl _ _, .inl (by simp), fun q hq => .inl (List.mem_cons_of_mem _ (List.mem_cons_of_mem _ (List.mem_map.2 ⟨q, hq, rfl⟩)))⟩, hp1.at_, .inl (by simp)⟩
    have gm : ∀ k ∈ (o.pb :: o.a.hb :: o.a.qs.map Prod.fst), S k := fun k hk => by
      rcases List.mem_cons.1 hk with e | hk
      · exact rm_S ho (.inl e)
      · rcases List.mem_cons.1 hk with e | hk
        · exact mem k (.inl e)
        · exact mem k (.inr (.inr (.inl hk)))
    have gt : ∀ k ∈ (o.pb :: o.a.hb :: o.a.qs.map Prod.fst), ∃ cs T fr, w1.heap[k]? = some (.cells cs T fr) ∧ kPr T = true := fun k hk => by
      rcases List.mem_cons.1 hk with rfl | hk
      · obtain ⟨cs, e⟩ := hp1.at_.blk; exact ⟨_, _, _, e, rfl⟩
      · rcases List.mem_cons.1 hk with rfl | hk
        · obtain ⟨cs, e⟩ := hh1.blk; exact ⟨_, _, _, e, rfl⟩
        · obtain ⟨q, hq, rfl⟩ := List.mem_map.1 hk
          obtain ⟨cs, T, e, hT⟩ := (hh1.dos q hq).2.1.blk
          exact ⟨_, _, _, e, by rcases hT with rfl | rfl | rfl <;> rfl⟩
    have hst := rmstep_hop hRH rm1 hp hs.xh hs.left hs.wf hs.r.hd
    rw [← hz] at hst
    refine hst.mono fun e w2 hh => ?_
    obtain ⟨h1, qs', h2⟩ := hh
    have g2 := h2.m.fs.ty gt
    have hrd2 := hB.rd.fr g2 r_not_qp h2.m.ws.below
    have hH2 := hH.fr g2 rfl rfl rfl rfl rfl
    have hrr := hB.rm.fr g2 rfl
    have hofr := ofr_of (V' := V) f1 h2.m.fs (fun k hk => .inl (gm k hk)) h2.m.ws fun q hq _ => hq
    have hdp : DPS w0 w2 B R V (o.a.hp.next s).1 (o.a.hp.nextR s x) (m + 1) := h.nx h2.m.ws hrd2 hal (hfar _ h.far) rfl rfl (Nat.le_succ _) (h.st.le (by omega)) h.nk
    have pbrb : ∀ k, (k = o.pb ∨ k = o.rb) → S k := fun k hk => hk.elim (fun e => rm_S ho (.inl e)) (fun e => rm_S ho (.inr (.inl e)))
    have hrm2 := h2.rm
    by_cases hl : z.left = 0
    · rw [if_pos hl] at hrr h1 hrm2 ⊢
      have hP : RmP w2 w0.heap.size ⟨o.pb, o.rb, { o.a with x := { o.a.x with is := true, ph := .off }, y := { o.a.y with is := true, line := 0 } }⟩ (rmSet ⟨o.pb, o.rb, { o.a with x := { o.a.x with is := true, ph := .off }, y := { o.a.y with is := true, line := 0 } }⟩) :=
        rm_none (room_atB hrm2 hs.l _) hrr rfl rfl ⟨rfl, fun _ => hs.sp⟩
      refine ⟨h1, _, _, _, _, _, rfl, hdp, hP, mapsin_ty hP (by simp only; decide), ?_, hofr⟩
      intro k hk
      rcases hk with e | e | ⟨c1, -⟩ | ⟨c1, -⟩ | ⟨c1, -⟩
      · exact .inl (pbrb k (.inl e))
      · exact .inl (pbrb k (.inr e))
      · exact absurd hs.l c1
      · cases c1
      · cases c1
    · rw [if_neg hl] at hrr h1 hrm2 ⊢
      have hP : RmP w2 w0.heap.size ⟨o.pb, o.rb, { o.a with hp := z, qs := qs', rqs := rqs' }⟩ (rmSet ⟨o.pb, o.rb, { o.a with hp := z, qs := qs', rqs := rqs' }⟩) :=
        ⟨room_atB hrm2 hs.l _, hrr, ho.is, fun _ => hg, fun c => (by simp only at c; rw [hp] at c; cases c), fun c => (by simp only at c; rw [hp] at c; cases c), fun c => (by simp only at c; rw [hp] at c; cases c), fun _ => ⟨hs.line, hs.l, hs.xh, hs.yh, h2.m.hp, hH2, hl, by rw [hzw]; exact hs.wf, hs.sp⟩, rfl⟩
      refine ⟨by rw [hs.line]; rw [hp] at h1; exact h1, { o.a with hp := z, qs := qs', rqs := rqs' }, _, _, _, _, rfl, hdp, hP, mapsin_ty hP (by simp only; rw [hp]; decide), ?_, hofr⟩
      intro k hk
      rcases hk with e | e | ⟨c1, -⟩ | ⟨c1, -⟩ | ⟨-, e⟩
      · exact .inl (pbrb k (.inl e))
      · exact .inl (pbrb k (.inr e))
      · exact absurd hs.l c1
      · simp only at c1; rw [hp] at c1; cases c1
      · rcases e with e | e | e | e
        · exact .inl (mem k (.inl e))
        · exact .inl (mem k (.inr (.inl e)))
        · obtain ⟨q, hq, rfl⟩ := List.mem_map.1 e
          rcases h2.m.owns q hq with c | c
          · exact .inl (gm _ c)
          · exact .inr (Nat.le_trans f1.size c)
        · obtain ⟨q, hq, rfl⟩ := List.mem_map.1 e
          rcases hrq q hq with c | c
          · exact .inl (mem _ (.inr (.inr (.inr c))))
          · exact .inr c
theorem rm_two (h : DPS w0 w B R V s x m) (hm : m ≤ 1000) (ho : RmP w w0.heap.size o S) (hmp : MapsIn w V S) : RmTwo w0 w B R V m o S := by
  cases hp : o.a.x.ph with
  | look => exact rmtwo_looks h hm ho hp
  | search => exact rmtwo_searches h hm ho hmp hp
  | hop => exact rmtwo_hop h hm ho hp
  | off => exact rmtwo_off h ho hp
end
end Go.Proofs.YtmakjfeepmiggaaGreat