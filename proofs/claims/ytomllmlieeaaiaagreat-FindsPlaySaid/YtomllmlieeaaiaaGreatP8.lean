/-
  Texts of this prover, merged: FindPlay.
-/
import Derived.Test.YtomllmlieeaaiaaGreatP7
import Derived.Test.YtomllmlieeaaiaaGreatP6
import Derived.Test.YtomllmlieeaaiaaGreatP2
import Derived.Deep.DeepCutAuto
import Derived.Deep.CutBlock
import Derived.Deep.RegionHeld2
/-
  FindsPlay: the walk. (written by genplayf.py)
-/
namespace Go.Proofs.YtomllmlieeaaiaaGreat
open Go.RowKit Go.Maps TagPure
set_option linter.unusedVariables false

theorem fdps_begin {w0 w : World} {B R : WB} {V : WV} {s : CS} {x : RS} {f : Fst} (hpr : Pr w0 w B R V s x) (hV : V = { v0 f.conf with its := f.its }) (hfar : Far s x 300) (hcok : f.conf.ok = true) (hitl : f.its.length ≤ 40) : DPS w0 w B R V s x 0 := by
  refine ⟨hpr, hfar, by rw [hV]; exact hcok, by rw [hV]; exact Nat.zero_le _, by rw [hV]; show f.its.length ≤ _; omega, (by rw [hV]; intro y hy; cases hy), (by rw [hV]; intro y hy; cases hy)⟩
theorem below_drwF {w w' : World} (h : Below w.drew.heap.size w.drew w') : Below w.heap.size w w' := ⟨h.os, h.tape, h.output, h.size, fun k hk => h.block k hk⟩
theorem info_fop : (Tryz.prog.info? 67).map (fun i => (i.zero, i.size, i.bytes)) = some (some (.agg #[.pointer none, .pointer none]), 2, 16) := by kernel_rfl
theorem POLaw.no {α : Type} {OT : TypeId} {Q Z : TypeId → Bool} {P : World → Nat → PO α → (Nat → Prop) → Prop} (hl : POLaw OT Q Z P) {w : World} {lo : Nat} {o : PO α} {S : Nat → Prop} (h : P w lo o S) {k : Nat} {cs : Array Value} {T : TypeId} {fr : Nat × Nat} (hk : w.heap[k]? = some (.cells cs T fr)) (hT : Q T = false) : ¬ S k := fun c => by
  rcases hl.blk h c with ⟨cs2, T2, fr2, g1, g2⟩ | ⟨es, cl, g1⟩
  · rw [ocell_ty hk g1] at hT; rw [hT] at g2; cases g2
  · rw [hk] at g1; cases g1
abbrev WTwo (ob q pb rb wb rwb : Nat) (ln : Int) (W : World) : Prop := W.cell? ⟨ob, 0, none⟩ = some (.pointer (some ⟨pb, 0, none⟩)) ∧ W.cell? ⟨ob, 1, none⟩ = some (.pointer (some ⟨rb, 0, none⟩)) ∧ W.cell? ⟨q, 0, none⟩ = some (.pointer (some ⟨wb, 0, none⟩)) ∧ W.cell? ⟨q, 1, none⟩ = some (.pointer (some ⟨rwb, 0, none⟩)) ∧ W.cell? ⟨rb, 0, none⟩ = some (.int .i64 ln)
theorem wtwo_below {ob q pb rb wb rwb : Nat} {ln : Int} {W W' : World} (h : WTwo ob q pb rb wb rwb ln W) (hb : Below W.heap.size W W') : WTwo ob q pb rb wb rwb ln W' := by
  have k : ∀ {c j : Nat} {v : Value}, W.cell? ⟨c, j, none⟩ = some v → W'.cell? ⟨c, j, none⟩ = some v := fun h => (hb.cell (World.block_lt_of_cell? _ _ h)).trans h
  exact ⟨k h.1, k h.2.1, k h.2.2.1, k h.2.2.2.1, k h.2.2.2.2⟩
section
variable {P : Program} {ops : Array Oper} {D : World → Prop}
theorem tailM_callF {Q : Exit → Act → World → Prop} {i : Nat} {r t2 : List Nat} {o : Oper} {a : Act} {w : World} (hi : ops[i]? = some o) (hg : o.guard = none) (f : FuncId) (args : Array Value) (hrun : (execOp a.eval o).run P w = .ok (.enter f args) w)
    (h : Calls P f args w fun e w' => ∃ v, e = .returned v ∧ D w' ∧ tailM P ops D Q t2 r (a.put o.dst v) w') : tailM P ops D Q t2 (i :: r) a w := by
  refine tailM_op hi hg ?_
  unfold Oper.wp
  rw [hrun]
  simp only [Oper.upon]
  refine h.mono fun e w' ⟨v, he, hD, ht⟩ => ?_
  subst he
  exact ⟨hD, ht⟩
end
theorem fd_maps {w : World} {lo : Nat} {o : PO FPd} {S : Nat → Prop} {V : WV} (h : FdP w lo o S) : MapsIn w V S := fun k es cl hk he => by
  rcases fd_law.blk h hk with ⟨cs, T, fr, g1, -⟩ | ⟨es2, cl2, g1⟩
  · rw [g1] at he; cases he
  · rw [h.s] at hk
    rcases hk with rfl | rfl
    · obtain ⟨cs, e⟩ := h.p.blk; rw [e] at he; cases he
    · obtain ⟨cs, e⟩ := h.r.blk; rw [e] at he; cases he
theorem fd_new {w wp wr : World} {pb rb : Nat} {key : ByteArray} (hk : key.size ≤ 400) (h1 : FindAt wp pb ⟨key, 0, 0, 0, 0, 0⟩ [.tab]) (hl : w.heap.size ≤ pb) (hb : Below w.heap.size w wp) (h2 : RFindAt wr wp.heap.size rb ⟨1, 0, 0, 0, 0, key, 0, [], 0, 0, 0⟩) (hb2 : Below wp.heap.size wp wr) : FdP wr w.heap.size ⟨pb, rb, ⟨⟨key, 0, 0, 0, 0, 0⟩, [.tab], ⟨1, 0, 0, 0, 0, key, 0, [], 0, 0, 0⟩⟩⟩ (fun k => k = pb ∨ k = rb) := by
  obtain ⟨l0, u, r1, r2⟩ := h2
  exact ⟨hl, h1.below hb2, ⟨Nat.le_trans hb.size l0, u, r1, plr_lo r2 hb.size⟩, ⟨rfl, (show (0 : Int) ≤ 0 ∧ (0 : Int) < 18446744073709551616 from by decide), Nat.zero_le _, fun _ => ⟨rfl, rfl, rfl, rfl⟩, .inl ⟨rfl, rfl⟩⟩, fun _ => ⟨rfl, rfl, rfl, rfl⟩, hk, rfl⟩
theorem fline {w : World} {lo b : Nat} {x : RF} (h : RFindAt w lo b x) {f : FW} {ls : List Ld} (hr : FRel f ls x) {ov : Bool} (ho : ov = decide (ls = [])) : ∃ ln, w.cell? ⟨b, 0, none⟩ = some (.int .i64 ln) ∧ (ln == 0) = ov := by
  obtain ⟨c0, -⟩ := h.c
  exact ⟨x.line, c0, by rw [ho]; exact (frel_tells hr).1⟩
set_option maxRecDepth 100000 in
set_option maxHeartbeats 8000000 in
theorem fplay15_any (f : Fst) (l : List FdAc) (al : Option Addr) (capl : Nat) (w : World) (hr : FstRd w f) (hl : FdActs w al capl l) :
    Calls Tryz.prog 4 #[.agg #[.int .i64 f.c.bits, .int .i64 f.c.budget, .int .i64 f.c.tries, .int .i64 f.c.quantum, .int .i64 f.c.way, .bool f.gr, .slice f.ia f.its.length f.ic, .slice f.pa f.puts.length f.pc, .slice f.sa f.sts.length f.sc, .int .i64 f.ticks], .slice al l.length capl] w
    fun e w' => e = .returned (.bool true) ∧ Below w.heap.size w w' := by
  have hml : l.length ≤ maxLen := Nat.le_trans hl.le hl.most
  unfold maxLen at hml
  obtain ⟨i0, hi0, hi1, hi2, hi3⟩ := info_parts info_fop
  have I0 := Lib.hid hi0; have I1 := Lib.hid hi1; have I2 := Lib.hid hi2; have I3 := Lib.hid hi3
  clear hi0 hi1 hi2 hi3
  have hB := below_alloc w (.cells f.cells 28)
  have z := heap_alloc_new w (.cells f.cells 28)
  have HR := Lib.hid (hr.below hB); have HB := Lib.hid hB; have HZ := Lib.hid z; have HLL := Lib.hid hl
  clear hr hB z hl
  go_enter Tryz.func4, Tryz.ntmps4
  go_upto_region 1 with (fail)
  change Code.wp _ _ _ _ (w.alloc (.cells f.cells 28))
  generalize w.alloc (.cells f.cells 28) = w1 at *
  have z := HZ.out
  obtain ⟨e0, e1, e2, e3, e4, e5, e6, e7, e8, e9⟩ := fst_cells z
  clear z
  by_cases h3 : 200 < l.length
  · have d3 : decide ((200 : Int) < l.length) = true := decide_eq_true (by omega)
    clear h3
    go_upto_if 17 with (go_at_call 12; refine (great_any f w1 HR.out).mono ?_; rintro e w2 ⟨g, rfl, b2, hg⟩; have B2 := Lib.hid b2; clear b2 hg e0 e1 e2 e3 e4 e5 e6 e7 e8 e9; cases g)
    all_goals
      go_wp2_with (go_at_call 23; refine (lives15 _).mono ?_; rintro e w3 ⟨rfl, b3⟩)
      go_ret
      have h1 := HB.out.trans (B2.out.mono HB.out.size)
      exact ⟨rfl, h1.trans (b3.mono h1.size)⟩
  have d3 : decide ((200 : Int) < l.length) = false := decide_eq_false (by omega)
  have HL3 : Hid (l.length ≤ 200) := by show l.length ≤ 200; omega
  clear h3
  go_upto_if 17 with (go_at_call 12; refine (great_any f w1 HR.out).mono ?_; rintro e w2 ⟨g, rfl, b2, hg⟩; have B2 := Lib.hid b2; have HG := Lib.hid hg; clear b2 hg e0 e1 e2 e3 e4 e5 e6 e7 e8 e9; cases g)
  rotate_left
  · go_wp2_with (go_at_call 23; refine (lives15 _).mono ?_; rintro e w3 ⟨rfl, b3⟩)
    go_ret
    have h1 := HB.out.trans (B2.out.mono HB.out.size)
    exact ⟨rfl, h1.trans (b3.mono h1.size)⟩
  obtain ⟨hin, hsz⟩ := HG.out trivial
  have HIN := Lib.hid (hin.below B2.out)
  have hitl : f.its.length ≤ 40 := hin.ni
  have HBB : Hid (Below w.heap.size w w2) := HB.out.trans (B2.out.mono HB.out.size)
  have z := (B2.out.block _ (Array.getElem?_eq_some_iff.1 HZ.out).1).trans HZ.out
  obtain ⟨e0, e1, e2, e3, e4, e5, e6, e7, e8, e9⟩ := fst_cells z
  clear z hin hsz
  go_upto_region 4 with (go_at_call 14; refine (begin_any f w2 HIN.out).mono ?_; rintro e w3 ⟨B, R, V, s, x, rfl, hpr, hV, hfar, hcok, -⟩; have hdp := fdps_begin hpr hV hfar hcok hitl; have HPR := Lib.hid hdp; clear hdp; clear hpr hV hfar hcok e0 e1 e2 e3 e4 e5 e6 e7 e8 e9)
  have hq0 := heap_alloc_new w3 (.cells #[.pointer (some ⟨B.wb, 0, none⟩), .pointer (some ⟨R.wb, 0, none⟩)] 34)
  have hB4 := below_alloc w3 (.cells #[.pointer (some ⟨B.wb, 0, none⟩), .pointer (some ⟨R.wb, 0, none⟩)] 34)
  have HPR4 := Lib.hid (HPR.out.keep hB4)
  change Code.wp _ _ _ _ (w3.alloc (.cells #[.pointer (some ⟨B.wb, 0, none⟩), .pointer (some ⟨R.wb, 0, none⟩)] 34))
  generalize w3.alloc (.cells #[.pointer (some ⟨B.wb, 0, none⟩), .pointer (some ⟨R.wb, 0, none⟩)] 34) = w4 at *
  generalize w3.heap.size = q at *
  have HQ4 := Lib.hid hq0
  clear HPR hq0 hB4
  have HMP : Hid (OPS 67 FdP w2 w4 B R q V s x 0 [] (.slice none 0 0)) := ⟨HPR4.out, HQ4.out, World.ownsRow_nil _ _ _ _, fun _ _ => False, fun i hi => (by cases hi), fun i j hi => (by cases hi)⟩
  clear HPR4 HQ4 d3 hitl HIN B2 HG HZ HR HB
  have HLL2 := Lib.hid (HLL.out.below HBB.out)
  clear HLL
  generalize (Value.agg #[.int .i64 f.c.bits, .int .i64 f.c.budget, .int .i64 f.c.tries, .int .i64 f.c.quantum, .int .i64 f.c.way, .bool f.gr, .slice f.ia f.its.length f.ic, .slice f.pa f.puts.length f.pc, .slice f.sa f.sts.length f.sc, .int .i64 f.ticks]) = va at *
  go_wp2_with fail
  go_loopw [6, 7] (fun v i wr => ∃ (k : Nat) (V : WV) (s : CS) (x : RS) (L : List (PO FPd)), k ≤ l.length ∧ i = .int .i64 k ∧ OPS 67 FdP w2 wr B R q V s x k L v ∧ L.length ≤ k) (fun _ i _ => l.length - (intOf i).toNat)
  case atStart => exact ⟨0, V, s, x, [], by omega, rfl, HMP.out, by simp⟩
  case round =>
    clear HMP V s x
    obtain ⟨i, V, s, x, L, hi, rfl, hT, hLi⟩ := hrel
    have hl300 := HL3.out
    by_cases hlt : i < l.length
    · have hlt' : (i : Int) < l.length := by omega
      obtain ⟨b, off, y, rfl, hy, hyw, y0, y1, y2, y3, y4⟩ := (HLL2.out.below (w := w2) (w' := wr) hT.d.pr.ws.below).at i hlt
      have hkb := wf_u8 hyw.k
      obtain ⟨kk, hkk⟩ : ∃ kk : Nat, (kk : Int) = y.k % 10 := ⟨(y.k % 10).toNat, by omega⟩
      have e3 : y.k.tmod 10 = kk := by rw [Int.tmod_eq_emod_of_nonneg hkb.1, hkk]
      have hk10 : kk < 10 := by omega
      have hb1 := below_alloc wr (.cells #[.int .u8 y.k, .int .u8 y.a, .string y.key, .int .u64 y.v, .int .u64 y.i] 61)
      have hz1 := heap_alloc_new wr (.cells #[.int .u8 y.k, .int .u8 y.a, .string y.key, .int .u64 y.v, .int .u64 y.i] 61)
      have HT := Lib.hid (hT.below fd_law hb1); have HZ1 := Lib.hid hz1; have HYW := Lib.hid hyw
      clear hb1 hz1 hT hy hyw hkb hkk
      go_upto_region 9 with (fail)
      change Code.wp _ _ _ _ (wr.alloc (.cells #[.int .u8 y.k, .int .u8 y.a, .string y.key, .int .u64 y.v, .int .u64 y.i] 61))
      generalize wr.alloc (.cells #[.int .u8 y.k, .int .u8 y.a, .string y.key, .int .u64 y.v, .int .u64 y.i] 61) = w6 at *
      generalize wr.heap.size = ab at *
      clear y0 y1 y2 y3 y4
      have y0 : w6.cell? ⟨ab, 0, none⟩ = some (.int .u8 y.k) := hcell HZ1.out 0
      go_upto_block 2 with (fail)
      clear y0 e3
      obtain ⟨vo, vcap, rfl⟩ := own_sl2 HT.out.row
      go_cut [6] (fun v wx => ∃ (V : WV) (s : CS) (x : RS) (L : List (PO FPd)), OPS 67 FdP w2 wx B R q V s x (i + 1) L v ∧ L.length ≤ i + 1)
      case first =>
        rcases (show kk = 0 ∨ kk = 1 ∨ 2 ≤ kk by omega) with h5 | h5 | h5
        · -- a Find begins
          have d0 : ((kk : Int) == 0) = true := beq_iff_eq.2 (by omega)
          have y2 : w6.cell? ⟨ab, 2, none⟩ = some (.string y.key) := hcell HZ1.out 2
          by_cases hp : 400 < y.key.size
          · have d1 : decide ((400 : Int) < y.key.size) = true := decide_eq_true (by omega)
            have d1n : decide (400 < y.key.size) = true := decide_eq_true hp
            clear hk10 h5 hp
            go_wp2_with fail
            exact ⟨⟨i + 1, V, s, x, L, by omega, by go_num, HT.out.le (by omega), by omega⟩, by simp [intOf]; omega⟩
          · have d1 : decide ((400 : Int) < y.key.size) = false := decide_eq_false (by omega)
            have d1n : decide (400 < y.key.size) = false := decide_eq_false hp
            have HKY : Hid (y.key.size ≤ 400) := Lib.hid (by omega)
            clear h5 hp
            go_upto_region 12 with (fail)
            clear d0 d1 d1n
            have z2 := fun st : ExtW w6 => st.cell y2
            clear y2
            refine wp_region_mix (D := fun W => ∃ s : ExtW w6, W = s.val) [0, 1, 2, 4, 5] [3, 6, 7, 8] 9 [10] (by kernel_rfl) (by kernel_rfl) (by kernel_rfl) (by kernel_rfl) (by decide) (by kernel_rfl) (by kernel_rfl) (fun c d v a w h => by cases d <;> exact h) ⟨⟨_, (Below.refl _ _).drew⟩, rfl⟩ ?_
            simp only [pickL_cons, pickL_nil, List.drop_succ_cons, List.drop_zero, List.take_succ_cons, List.take_zero, List.cons_append, List.nil_append]
            repeat (go_big_quiet_step (fail))
            refine wpQuiet_nil ?_
            clear z2
            have HBD := Lib.hid (show Below w6.heap.size w6 w6.drew from (Below.refl _ _).drew)
            refine tailM_callF rfl rfl 24 #[.string y.key] (by kernel_rfl) ?_
            refine (newfind y.key w6.drew).mono ?_
            intro e wP hh
            obtain ⟨pb, hh1, hp1, hp2, hp3⟩ := hh
            subst hh1
            have HBP := Lib.hid (HBD.out.trans hp3)
            refine ⟨_, rfl, ⟨⟨_, HBP.out⟩, rfl⟩, ?_⟩
            (try simp only [List.getElem_toArray, List.getElem_cons_succ, List.getElem_cons_zero])
            (try go_frame)
            refine tailM_callF rfl rfl 25 #[.string y.key] (by kernel_rfl) ?_
            refine (rnewfind y.key wP).mono ?_
            intro e wR hh
            obtain ⟨rb, hh1, hr1, hr2, hr3⟩ := hh
            subst hh1
            have HBR := Lib.hid (HBP.out.trans (hr3.mono HBP.out.size))
            have HFD := Lib.hid (fd_new (w := w6) HKY.out hp1 hp2 HBP.out hr1 hr3)
            clear hp1 hp2 hp3 hr1 hr2 hr3
            refine ⟨_, rfl, ⟨⟨_, HBR.out⟩, rfl⟩, ?_⟩
            (try simp only [List.getElem_toArray, List.getElem_cons_succ, List.getElem_cons_zero])
            (try go_frame)
            refine tailM_op rfl rfl ?_
            go_simp
            refine ⟨⟨⟨_, HBR.out⟩, rfl⟩, ?_⟩
            (try simp only [List.getElem_toArray, List.getElem_cons_succ, List.getElem_cons_zero])
            (try go_frame)
            refine tailM_op rfl rfl ?_
            go_simp
            refine ⟨⟨⟨_, HBR.out.alloc HBR.out.size _⟩, rfl⟩, ?_⟩
            (try simp only [List.getElem_toArray, List.getElem_cons_succ, List.getElem_cons_zero])
            (try go_frame)
            change tailE Tryz.prog _ _ [9, 10] _ _
            refine tailE_op rfl rfl ?_
            have HROW := Lib.hid (HT.out.below fd_law HBR.out).row
            have hLL := hLi
            have hlow := (HT.out.below fd_law HBR.out).d.pr.ws.below.size
            obtain ⟨va2, vc2, hva2⟩ := own_sl2 HROW.out
            refine wp_append_lies _ (.tmp 41) (.tmp 49) 59 rfl w2.heap.size 67 i0 (.agg #[.pointer none, .pointer none]) 2 16 Tryz.underlying59 I0.out I1.out I2.out I3.out rfl (by decide) _ L.length _ rfl (HROW.out.alloc _) ⟨wR.heap.size, 0, none⟩ 1 1 [.pointer (some ⟨pb, 0, none⟩), .pointer (some ⟨rb, 0, none⟩)] rfl rfl (World.news_of_block (heap_alloc_new wR _)) (by simp [Value.oneCell']) (by decide) (by unfold maxLen; omega) (by omega) (by simp; omega) _ rfl ?_
            intro g2 cap2 w11 hown' hgrow _ _
            have hb10 := below_alloc wR (.cells #[.pointer (some ⟨pb, 0, none⟩), .pointer (some ⟨rb, 0, none⟩)] 67)
            have hB10 := HBR.out.trans (hb10.mono HBR.out.size)
            have hTb := HT.out.below fd_law hB10
            have hB11 := grown_below (HROW.out.alloc _) hgrow hTb.d.pr.ws.below hTb.d.pr.ws.below.size (Nat.le_refl _)
            have f11 := grown_ty (HROW.out.alloc _) hgrow
            have hoF := fd_law.below HFD.out hb10
            have hP := HT.out.push fd_law (o := ⟨pb, rb, ⟨⟨y.key, 0, 0, 0, 0, 0⟩, [.tab], ⟨1, 0, 0, 0, 0, y.key, 0, [], 0, 0, 0⟩⟩⟩) hB10 hTb.d (fun _ h => h) hoF (fd_maps hoF) hown' f11 hB11
            have HP := Lib.hid hP
            clear hb10 hB10 hTb hB11 f11 hP hown' hgrow hoF hlow hva2
            (try simp only [List.getElem_toArray, List.getElem_cons_succ, List.getElem_cons_zero])
            (try go_frame)
            refine tailE_op rfl rfl ?_
            go_simp
            unfold tailE
            (try simp only [List.getElem_toArray, List.getElem_cons_succ, List.getElem_cons_zero])
            (try go_frame)
            go_wp2_with fail
            go_meet
            case rel => exact ⟨V, s, x, L ++ [_], HP.out.le (by omega), by simp; omega⟩
        · -- others store
          have d0 : ((kk : Int) == 0) = false := beq_eq_false_iff_ne.2 (by omega)
          have d1 : ((kk : Int) == 1) = true := beq_iff_eq.2 (by omega)
          clear h5
          have y3 : w6.cell? ⟨ab, 3, none⟩ = some (.int .u64 y.v) := hcell HZ1.out 3
          have y4 : w6.cell? ⟨ab, 4, none⟩ = some (.int .u64 y.i) := hcell HZ1.out 4
          have p0 := hcell HT.out.pq 0
          have p1 := hcell HT.out.pq 1
          have hst := pstore_any HT.out.d.pr (300 + i) HT.out.d.far (by omega) y.v y.i HYW.out.v HYW.out.i
          go_wp2_with (go_at_call 18; refine hst.mono ?_; intro e w7 hh; obtain ⟨hh1, h7, f7⟩ := hh; subst hh1; have HT7 := Lib.hid (HT.out.world fd_law (m' := i + 1) (HT.out.d.acc _ _ _ h7) (fun _ h => h) f7); clear h7 f7 hst p0 p1 y3 y4)
          go_meet
          case rel => exact ⟨_, _, _, L, HT7.out, by omega⟩
        · -- a step
          have d0 : ((kk : Int) == 0) = false := beq_eq_false_iff_ne.2 (by omega)
          have d1 : ((kk : Int) == 1) = false := beq_eq_false_iff_ne.2 (by omega)
          clear h5
          by_cases hL : L.length = 0
          · have d4 : decide ((0 : Int) < L.length) = false := decide_eq_false (by omega)
            have d4n : decide (0 < L.length) = false := decide_eq_false (by omega)
            clear hL
            go_wp2_with fail
            go_meet
            case rel => exact ⟨_, _, _, L, HT.out.le (by omega), by omega⟩
          · have d4 : decide ((0 : Int) < L.length) = true := decide_eq_true (by omega)
            have d4n : decide (0 < L.length) = true := decide_eq_true (by omega)
            go_upto_region 16 with (fail)
            clear d0 d1 d4 d4n
            have hab := wf_u8 HYW.out.a
            have hlp : (0 : Int) < L.length := by omega
            obtain ⟨j, hj⟩ : ∃ j : Nat, (j : Int) = y.a % L.length := ⟨(y.a % L.length).toNat, by have := Int.emod_nonneg y.a (show (L.length : Int) ≠ 0 by omega); omega⟩
            have hjl : j < L.length := by have := Int.emod_lt_of_pos y.a hlp; omega
            have hjl' : (j : Int) < L.length := by omega
            have e1 : wrap64 y.a = y.a := IntWalk.wrap64_in _ (by omega)
            have e2 : y.a.tmod L.length = j := by rw [Int.tmod_eq_emod_of_nonneg hab.1, hj]
            have e4 : ((L.length : Int) == 0) = false := beq_eq_false_iff_ne.2 (by omega)
            obtain ⟨g, gcap, hv, k0, k1⟩ := HT.out.at j hjl
            simp only [Value.slice.injEq, true_and] at hv
            obtain ⟨rfl, rfl⟩ := hv
            obtain ⟨o, ho⟩ : ∃ o, o = L[j]'hjl := ⟨_, rfl⟩
            rw [← ho] at k0 k1
            have x1 : w6.cell? ⟨ab, 1, none⟩ = some (.int .u8 y.a) := hcell HZ1.out 1
            have HO := Lib.hid ho
            clear hj hab hL ho
            go_upto_region 17 with (fail)
            clear x1 k0 k1 e1 e2 e4 hlp hjl'
            have hb8 := below_alloc w6 (.cells #[.pointer (some ⟨o.pb, 0, none⟩), .pointer (some ⟨o.rb, 0, none⟩)] 67)
            have hz8 := heap_alloc_new w6 (.cells #[.pointer (some ⟨o.pb, 0, none⟩), .pointer (some ⟨o.rb, 0, none⟩)] 67)
            have HT8 := Lib.hid (HT.out.below fd_law hb8); have HZ8 := Lib.hid hz8
            clear hb8 hz8
            change Code.wp _ _ _ _ (w6.alloc (.cells #[.pointer (some ⟨o.pb, 0, none⟩), .pointer (some ⟨o.rb, 0, none⟩)] 67))
            generalize w6.alloc (.cells #[.pointer (some ⟨o.pb, 0, none⟩), .pointer (some ⟨o.rb, 0, none⟩)] 67) = w8 at *
            generalize w6.heap.size = ob at *
            obtain ⟨S, hoS, hmS, hput⟩ := HT8.out.take fd_law j hjl
            rw [← HO.out] at hoS
            have HOS := Lib.hid hoS; have HMS := Lib.hid hmS; have HPUT := Lib.hid hput
            have hst := fd_r HT8.out.d (by omega) hoS
            have z1 := hcell HZ8.out 1
            have p1 := hcell HT8.out.pq 1
            clear hoS hmS hput
            go_upto_region 18 with (go_at_call 26; refine hst.mono ?_; intro e w9 hh; obtain ⟨hh1, hM⟩ := hh; subst hh1; have HM := Lib.hid hM; clear hM hst z1 p1)
            have hzo9 := HM.out.fx.cells _ _ _ _ HZ8.out rfl (fun e => by
              obtain ⟨cs, h9⟩ := HOS.out.r.blk
              have := ocell_ty (e ▸ HZ8.out) h9; exact absurd this (by decide))
            have hzq9 := HM.out.fx.cells _ _ _ _ HT8.out.pq rfl (fun e => by
              obtain ⟨cs, h9⟩ := HOS.out.r.blk
              have := ocell_ty (e ▸ HT8.out.pq) h9; exact absurd this (by decide))
            obtain ⟨a2, ha2⟩ : ∃ a2, a2 = o.a.next V.its s := ⟨_, rfl⟩
            have hb9 : Below w9.heap.size w9 w9.drew := (Below.refl _ _).drew
            have hsx2 := fd_x HT8.out.d (by omega) HOS.out (HM.out.below hb9)
            unfold FFin at hsx2
            have hr9 := HM.out.r
            rw [← ha2] at hsx2 hr9
            obtain ⟨ov, hov⟩ : ∃ ov, ov = decide (a2.ls = []) := ⟨_, rfl⟩
            rw [← hov] at hsx2
            have hrel2 : FRel a2.f a2.ls a2.x := by
              rw [ha2]
              have h7 := HOS.out.rel
              unfold FPd.next
              cases hls : o.a.ls with
              | nil => exact h7
              | cons l r =>
                rw [hls] at h7
                exact frel_step h7 HOS.out.xo (wf_bd (HT8.out.d.pr.ws.own.wf _))
            obtain ⟨ln, hln, hlo⟩ := fline hr9 hrel2 hov
            have hln2 : a2.x.line = ln := by
              obtain ⟨c0, -⟩ := hr9.c
              have := c0.symm.trans hln
              simpa using this
            have HOV := Lib.hid hov; have HLN2 := Lib.hid hln2
            have s9 : WTwo ob q o.pb o.rb B.wb R.wb ln w9.drew := ⟨hcell hzo9 0, hcell hzo9 1, hcell hzq9 0, hcell hzq9 1, hln⟩
            clear hzo9 hzq9 hln hov hb9 HM hr9 hrel2 hln2 ha2
            cases ov
            all_goals
              go_region_held2 (fun W => WTwo ob q o.pb o.rb B.wb R.wb ln W) (with_reducible assumption) (first
                | (go_at_call 27; refine hsx2.mono ?_; intro e wX hh; obtain ⟨hh1, s', x', hd, hwp, hfr⟩ := hh; subst hh1; have hzoX := hfr.cells _ _ _ _ HZ8.out rfl (fd_law.no HOS.out HZ8.out rfl); have hzqX := hfr.cells _ _ _ _ HT8.out.pq rfl (fd_law.no HOS.out HT8.out.pq rfl); have hsm := osameF hwp.p hwp.r hwp.rel; simp only at hsm; obtain ⟨clX, -⟩ := hwp.r.c; simp only at clX; rw [HLN2.out] at clX; have sX : WTwo ob q o.pb o.rb B.wb R.wb ln wX := ⟨hcell hzoX 0, hcell hzoX 1, hcell hzqX 0, hcell hzqX 1, clX⟩; have hpt := HPUT.out wX V s' x' (i + 1) ⟨o.pb, o.rb, a2⟩ S (by rw [← HO.out]) (by rw [← HO.out]) hd hwp (fd_maps hwp) (fun _ h => .inl h) hfr; have HPT := Lib.hid hpt; clear hd hwp hfr hzoX hzqX hpt clX hsx2 s9)
                | (go_at_call 28; refine hsm.mono ?_; intro e wY hh; obtain ⟨hh1, bY⟩ := hh; subst hh1; have sY : WTwo ob q o.pb o.rb B.wb R.wb ln wY := wtwo_below sX bY; have HY := Lib.hid (HPT.out.below fd_law bY); clear bY hsm sX))
              all_goals (try go_wp2_with fail)
              all_goals go_meet
              all_goals
                case rel => exact ⟨V, s', x', _, HY.out, by rw [List.length_set]; omega⟩
      case rest =>
      clear HT HZ1 HYW
      obtain ⟨V', s', x', L', hT2, hL2⟩ := hcut
      have p0 := hcell hT2.pq 0
      have p1 := hcell hT2.pq 1
      have hps := psame_any hT2.d.pr
      have HT2 := Lib.hid hT2
      clear hT2
      go_wp2_with (go_at_call 21; refine hps.mono ?_; intro e w9 hh; obtain ⟨hh1, b9⟩ := hh; subst hh1; have HT9 := Lib.hid (HT2.out.below fd_law b9); clear hps b9 p0 p1)
      go_roundw
      case rel => exact ⟨i + 1, V', s', x', L', by omega, by go_num, HT9.out, hL2⟩
      case measure => simp [intOf]; omega
    · obtain rfl : i = l.length := by omega
      have p0 := hcell hT.pq 0
      have p1 := hcell hT.pq 1
      have o6 := psalln_any hT.d.pr (by have := hT.d.nn; omega) hT.d.nk (by have := hT.d.ni; omega) (by have := hT.d.far.1; omega)
      have HT := Lib.hid hT
      clear hT hlt
      go_wp2_with (first
        | (go_at_call 22; refine o6.mono ?_; intro e w17 hh; obtain ⟨hh1, b17⟩ := hh; subst hh1; have HB17 := Lib.hid b17; clear o6 b17 p0 p1)
        | (go_at_call 23; refine (lives15 _).mono ?_; rintro e w18 ⟨rfl, b18⟩))
      go_ret
      have h0 := HT.out.d.pr.ws.below
      have h1 := h0.trans (HB17.out.mono h0.size)
      have h2 := h1.trans (b18.mono h1.size)
      exact ⟨rfl, HBB.out.trans (h2.mono HBB.out.size)⟩
set_option maxRecDepth 10000 in
theorem walkFindsPlay {H1 : Type} (w : World) (enc : TypeId × Value → H1) (base : Nat) (v : Value) (d : DataW H1) (p : List MemPlace) (k : DataW.Trod enc Tryz.prog w 0 (fun _ => true) true 28 v d p) (o : Value.okWide Tryz.prog w .any base 28 v)
    (enc2 : TypeId × Value → H1) (base2 : Nat) (v2 : Value) (d2 : DataW H1) (p2 : List MemPlace) (k2 : DataW.Trod enc2 Tryz.prog w 0 (fun _ => true) true 58 v2 d2 p2) (o2 : Value.okWide Tryz.prog w .any base2 58 v2) :
    Calls Tryz.prog 4 #[v, v2] w fun e w' => e = .returned (.bool true) ∧ Below w.heap.size w w' := by
  have hl : leaves Tryz.prog 6 58 = some [.sl fdacLeaves] := by kernel_rfl
  obtain ⟨f, rfl, hr⟩ := fst_open k o
  obtain ⟨a1, n1, cap1, rfl⟩ := Go.WideShapes.okWide_slice Tryz.underlying58 o2
  obtain ⟨l, hll, hac⟩ := fdacts_of (opened hl k2).1
  subst hll
  exact fplay15_any f l a1 cap1 w hr hac
end Go.Proofs.YtomllmlieeaaiaaGreat
