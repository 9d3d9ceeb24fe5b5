import Derived.Test.YtmakjfeepmiggaaGreatZ45
import Derived.Test.YtmakjfeepmiggaaGreatZ12
import Derived.Test.YtmakjfeepmiggaaGreatZ11
import Derived.Test.YtmakjfeepmiggaaGreatZ10
import Derived.Test.YtmakjfeepmiggaaGreatZ46
import Derived.Deep.DeepCutAuto
import Derived.Deep.CutBlock
import Derived.Deep.RegionHeld2
namespace Go.Proofs.YtmakjfeepmiggaaGreat
open Go.RowKit Go.Maps TagPure
set_option linter.unusedVariables false
theorem rdps_begin {w0 w : World} {B R : WB} {V : WV} {s : CS} {x : RS} {f : Fst} (hpr : Pr w0 w B R V s x) (hV : V = { v0 f.conf with its := f.its }) (hfar : Far s x 300) (hcok : f.conf.ok = true) (hitl : f.its.length ≤ 40) : DPS w0 w B R V s x 0 := by
  refine ⟨hpr, hfar, by rw [hV]; exact hcok, by rw [hV]; exact Nat.zero_le _, by rw [hV]; show f.its.length ≤ _; omega, (by rw [hV]; intro y hy; cases hy), (by rw [hV]; intro y hy; cases hy)⟩
theorem below_drwW {w w' : World} (h : Below w.drew.heap.size w.drew w') : Below w.heap.size w w' := ⟨h.os, h.tape, h.output, h.size, fun k hk => h.block k hk⟩
theorem below_alW {w w' : World} {o : Obj} (h : Below (w.alloc o).heap.size (w.alloc o) w') : Below w.heap.size w w' := (below_alloc w o).trans (h.mono (below_alloc w o).size)
abbrev MOne (ab : Nat) (b h : Int) (W : World) : Prop := W.cell? ⟨ab, 2, none⟩ = some (.int .i64 b) ∧ W.cell? ⟨ab, 3, none⟩ = some (.int .u64 h)
section
variable {ab : Nat} {b h : Int} {W W' : World}
theorem wone_al {o : Obj} (k0 : MOne ab b h W) : MOne ab b h (W.alloc o) := by
  have k : ∀ {j : Nat} {v : Value}, W.cell? ⟨ab, j, none⟩ = some v → (W.alloc o).cell? ⟨ab, j, none⟩ = some v := fun h => by rw [World.cell?_alloc_past _ _ _ (World.block_lt_of_cell? _ _ h)]; exact h
  exact ⟨k k0.1, k k0.2⟩
theorem wone_drew (k0 : MOne ab b h W) : MOne ab b h W.drew := k0
theorem wone_below (k0 : MOne ab b h W) (hb : Below W.heap.size W W') : MOne ab b h W' := by
  have k : ∀ {j : Nat} {v : Value}, W.cell? ⟨ab, j, none⟩ = some v → W'.cell? ⟨ab, j, none⟩ = some v := fun h => (hb.cell (World.block_lt_of_cell? _ _ h)).trans h
  exact ⟨k k0.1, k k0.2⟩
theorem wone_set {obk o : Nat} {u : Value} (k0 : MOne ab b h W) (hne : ab ≠ obk) : MOne ab b h (W.setCell ⟨obk, o, none⟩ u) := by
  have k : ∀ {j : Nat} {u' : Value}, W.cell? ⟨ab, j, none⟩ = some u' → (W.setCell ⟨obk, o, none⟩ u).cell? ⟨ab, j, none⟩ = some u' := fun h => (World.cell?_setCell_other _ _ _ _ (by first | (simp; done) | (simp; omega))).trans h
  exact ⟨k k0.1, k k0.2⟩
end
theorem wop_store {b h : Int} {w w1 : World} {obk pb rb : Nat} {u1 u2 : Value} (hz : w1.heap[obk]? = some (.cells #[u1, u2] 104 (0, 0))) (hA : AM b h w1 w.heap.size pb) (hC : BM b h w1 w.heap.size rb) (hb : Below w.heap.size w w1) (hl : w.heap.size ≤ obk) (v0 v1 : Value) :
    ((w1.setCell ⟨obk, 0, none⟩ v0).setCell ⟨obk, 1, none⟩ v1).heap[obk]? = some (.cells #[v0, v1] 104 (0, 0)) ∧ (AM b h ((w1.setCell ⟨obk, 0, none⟩ v0).setCell ⟨obk, 1, none⟩ v1) w.heap.size pb ∧ BM b h ((w1.setCell ⟨obk, 0, none⟩ v0).setCell ⟨obk, 1, none⟩ v1) w.heap.size rb) ∧ w.heap.size ≤ obk ∧ Below w.heap.size w ((w1.setCell ⟨obk, 0, none⟩ v0).setCell ⟨obk, 1, none⟩ v1) := by
  have s1 := setCell_same hz 0 v0
  have s2 := setCell_same s1 1 v1
  have f : Fr (fun T => T == 104) false w1 ((w1.setCell ⟨obk, 0, none⟩ v0).setCell ⟨obk, 1, none⟩ v1) := (set_ty hz 0 v0).trans (set_ty s1 1 v1)
  have b1 := set_below hb hb.size hl 0 v0
  exact ⟨s2, ⟨hA.imp fun g k => k.fr f rfl rfl, RRoomAt.fr hC f rfl⟩, hl, set_below b1 b1.size hl 1 v1⟩
theorem info_rop : (Tryz.prog.info? 104).map (fun i => (i.zero, i.size, i.bytes)) = some (some (.agg #[.pointer none, .pointer none]), 2, 16) := by kernel_rfl
theorem POLaw.no {α : Type} {OT : TypeId} {Q Z : TypeId → Bool} {P : World → Nat → PO α → (Nat → Prop) → Prop} (hl : POLaw OT Q Z P) {w : World} {lo : Nat} {o : PO α} {S : Nat → Prop} (h : P w lo o S) {k : Nat} {cs : Array Value} {T : TypeId} {fr : Nat × Nat} (hk : w.heap[k]? = some (.cells cs T fr)) (hT : Q T = false) : ¬ S k := fun c => by
  rcases hl.blk h c with ⟨cs2, T2, fr2, g1, g2⟩ | ⟨es, cl, g1⟩
  · rw [ocell_ty hk g1] at hT; rw [hT] at g2; cases g2
  · rw [hk] at g1; cases g1
abbrev WTwo (ob q pb rb wb rwb : Nat) (ln : Int) (W : World) : Prop := W.cell? ⟨ob, 0, none⟩ = some (.pointer (some ⟨pb, 0, none⟩)) ∧ W.cell? ⟨ob, 1, none⟩ = some (.pointer (some ⟨rb, 0, none⟩)) ∧ W.cell? ⟨q, 0, none⟩ = some (.pointer (some ⟨wb, 0, none⟩)) ∧ W.cell? ⟨q, 1, none⟩ = some (.pointer (some ⟨rwb, 0, none⟩)) ∧ W.cell? ⟨rb, 0, none⟩ = some (.int .i64 ln)
theorem wtwo_below {ob q pb rb wb rwb : Nat} {ln : Int} {W W' : World} (h : WTwo ob q pb rb wb rwb ln W) (hb : Below W.heap.size W W') : WTwo ob q pb rb wb rwb ln W' := by
  have k : ∀ {c j : Nat} {v : Value}, W.cell? ⟨c, j, none⟩ = some v → W'.cell? ⟨c, j, none⟩ = some v := fun h => (hb.cell (World.block_lt_of_cell? _ _ h)).trans h
  exact ⟨k h.1, k h.2.1, k h.2.2.1, k h.2.2.2.1, k h.2.2.2.2⟩
set_option maxRecDepth 100000 in
set_option maxHeartbeats 8000000 in
theorem rplay_any (f : Fst) (l : List RmAc) (al : Option Addr) (capl : Nat) (w : World) (hr : FstRd w f) (hl : RmActs w al capl l) :
    Calls Tryz.prog 6 #[.agg #[.int .i64 f.c.bits, .int .i64 f.c.budget, .int .i64 f.c.tries, .int .i64 f.c.quantum, .int .i64 f.c.way, .bool f.gr, .slice f.ia f.its.length f.ic, .slice f.pa f.puts.length f.pc, .slice f.sa f.sts.length f.sc, .int .i64 f.ticks], .slice al l.length capl] w
    fun e w' => e = .returned (.bool true) ∧ Below w.heap.size w w' := by
  have hml : l.length ≤ maxLen := Nat.le_trans hl.le hl.most
  unfold maxLen at hml
  obtain ⟨i0, hi0, hi1, hi2, hi3⟩ := info_parts info_rop
  have I0 := Lib.hid hi0; have I1 := Lib.hid hi1; have I2 := Lib.hid hi2; have I3 := Lib.hid hi3
  clear hi0 hi1 hi2 hi3
  have hB := below_alloc w (.cells f.cells 28)
  have z := heap_alloc_new w (.cells f.cells 28)
  have HR := Lib.hid (hr.below hB); have HB := Lib.hid hB; have HZ := Lib.hid z; have HLL := Lib.hid hl
  clear hr hB z hl
  go_enter Tryz.func6, Tryz.ntmps6
  go_upto_region 1 with (fail)
  change Code.wp _ _ _ _ (w.alloc (.cells f.cells 28))
  generalize w.alloc (.cells f.cells 28) = w1 at *
  have z := HZ.out
  obtain ⟨e0, e1, e2, e3, e4, e5, e6, e7, e8, e9⟩ := fst_cells z
  clear z
  by_cases h3 : 300 < l.length
  · have d3 : decide ((300 : Int) < l.length) = true := decide_eq_true (by omega)
    clear h3
    go_upto_if 18 with (go_at_call 7; refine (great_any f w1 HR.out).mono ?_; rintro e w2 ⟨g, rfl, b2, hg⟩; have B2 := Lib.hid b2; clear b2 hg e0 e1 e2 e3 e4 e5 e6 e7 e8 e9; cases g)
    all_goals
      go_wp2_with (go_at_call 32; refine (lives18 _).mono ?_; rintro e w3 ⟨rfl, b3⟩)
      go_ret
      have h1 := HB.out.trans (B2.out.mono HB.out.size)
      exact ⟨rfl, h1.trans (b3.mono h1.size)⟩
  have d3 : decide ((300 : Int) < l.length) = false := decide_eq_false (by omega)
  have HL3 : Hid (l.length ≤ 300) := by show l.length ≤ 300; omega
  clear h3
  go_upto_if 18 with (go_at_call 7; refine (great_any f w1 HR.out).mono ?_; rintro e w2 ⟨g, rfl, b2, hg⟩; have B2 := Lib.hid b2; have HG := Lib.hid hg; clear b2 hg e0 e1 e2 e3 e4 e5 e6 e7 e8 e9; cases g)
  rotate_left
  · go_wp2_with (go_at_call 32; refine (lives18 _).mono ?_; rintro e w3 ⟨rfl, b3⟩)
    go_ret
    have h1 := HB.out.trans (B2.out.mono HB.out.size)
    exact ⟨rfl, h1.trans (b3.mono h1.size)⟩
  obtain ⟨hin, hsz⟩ := HG.out trivial
  have HIN := Lib.hid (hin.below B2.out)
  have hitl : f.its.length ≤ 40 := hin.ni
  have HBB : Hid (Below w.heap.size w w2) := HB.out.trans (B2.out.mono HB.out.size)
  have z := (B2.out.block _ (Array.getElem?_eq_some_iff.1 HZ.out).1).trans HZ.out
  obtain ⟨e0, e1, e2, e3, e4, e5, e6, e7, e8, e9⟩ := fst_cells z
  clear z hin hsz
  go_upto_region 4 with (go_at_call 9; refine (begin_any f w2 HIN.out).mono ?_; rintro e w3 ⟨B, R, V, s, x, rfl, hpr, hV, hfar, hcok, -⟩; have hdp := rdps_begin hpr hV hfar hcok hitl; have HPR := Lib.hid hdp; clear hdp; clear hpr hV hfar hcok e0 e1 e2 e3 e4 e5 e6 e7 e8 e9)
  have hq0 := heap_alloc_new w3 (.cells #[.pointer (some ⟨B.wb, 0, none⟩), .pointer (some ⟨R.wb, 0, none⟩)] 34)
  have hB4 := below_alloc w3 (.cells #[.pointer (some ⟨B.wb, 0, none⟩), .pointer (some ⟨R.wb, 0, none⟩)] 34)
  have HPR4 := Lib.hid (HPR.out.keep hB4)
  change Code.wp _ _ _ _ (w3.alloc (.cells #[.pointer (some ⟨B.wb, 0, none⟩), .pointer (some ⟨R.wb, 0, none⟩)] 34))
  generalize w3.alloc (.cells #[.pointer (some ⟨B.wb, 0, none⟩), .pointer (some ⟨R.wb, 0, none⟩)] 34) = w4 at *
  generalize w3.heap.size = q at *
  have HQ4 := Lib.hid hq0
  clear HPR hq0 hB4
  have HMP : Hid (OPS 104 RmP w2 w4 B R q V s x 0 [] (.slice none 0 0)) := ⟨HPR4.out, HQ4.out, World.ownsRow_nil _ _ _ _, fun _ _ => False, fun i hi => (by cases hi), fun i j hi => (by cases hi)⟩
  clear HPR4 HQ4 d3 hitl HIN B2 HG HZ HR HB
  have HLL2 := Lib.hid (HLL.out.below HBB.out)
  clear HLL
  generalize (Value.agg #[.int .i64 f.c.bits, .int .i64 f.c.budget, .int .i64 f.c.tries, .int .i64 f.c.quantum, .int .i64 f.c.way, .bool f.gr, .slice f.ia f.its.length f.ic, .slice f.pa f.puts.length f.pc, .slice f.sa f.sts.length f.sc, .int .i64 f.ticks]) = va at *
  go_wp2_with fail
  go_loopw [6, 7] (fun v i wr => ∃ (k : Nat) (V : WV) (s : CS) (x : RS) (L : List (PO RPd)), k ≤ l.length ∧ i = .int .i64 k ∧ OPS 104 RmP w2 wr B R q V s x k L v ∧ L.length ≤ k) (fun _ i _ => l.length - (intOf i).toNat)
  case atStart => exact ⟨0, V, s, x, [], by omega, rfl, HMP.out, by simp⟩
  case round =>
    clear HMP V s x
    obtain ⟨i, V, s, x, L, hi, rfl, hT, hLi⟩ := hrel
    have hl300 := HL3.out
    by_cases hlt : i < l.length
    · have hlt' : (i : Int) < l.length := by omega
      obtain ⟨b, off, y, rfl, hy, hyw, y0, y1, y2, y3, y4, y5⟩ := (HLL2.out.below (w := w2) (w' := wr) hT.d.pr.ws.below).at i hlt
      have hkb := wf_u8 hyw.k
      obtain ⟨kk, hkk⟩ : ∃ kk : Nat, (kk : Int) = y.k % 20 := ⟨(y.k % 20).toNat, by omega⟩
      have e3 : y.k.tmod 20 = kk := by rw [Int.tmod_eq_emod_of_nonneg hkb.1, hkk]
      have hk20 : kk < 20 := by omega
      have hb1 := below_alloc wr (.cells #[.int .u8 y.k, .int .u8 y.a, .int .i64 y.b, .int .u64 y.h, .int .u64 y.v, .int .u64 y.i] 98)
      have hz1 := heap_alloc_new wr (.cells #[.int .u8 y.k, .int .u8 y.a, .int .i64 y.b, .int .u64 y.h, .int .u64 y.v, .int .u64 y.i] 98)
      have HT := Lib.hid (hT.below rm_law hb1); have HZ1 := Lib.hid hz1; have HYW := Lib.hid hyw
      clear hb1 hz1 hT hy hyw hkb hkk
      go_upto_region 9 with (fail)
      change Code.wp _ _ _ _ (wr.alloc (.cells #[.int .u8 y.k, .int .u8 y.a, .int .i64 y.b, .int .u64 y.h, .int .u64 y.v, .int .u64 y.i] 98))
      generalize wr.alloc (.cells #[.int .u8 y.k, .int .u8 y.a, .int .i64 y.b, .int .u64 y.h, .int .u64 y.v, .int .u64 y.i] 98) = w6 at *
      generalize wr.heap.size = ab at *
      clear y0 y1 y2 y3 y4 y5
      have y0 : w6.cell? ⟨ab, 0, none⟩ = some (.int .u8 y.k) := hcell HZ1.out 0
      go_upto_block 2 with (fail)
      clear y0 e3
      obtain ⟨vo, vcap, rfl⟩ := own_sl2 HT.out.row
      go_cut [6] (fun v wx => ∃ (V : WV) (s : CS) (x : RS) (L : List (PO RPd)), OPS 104 RmP w2 wx B R q V s x (i + 1) L v ∧ L.length ≤ i + 1)
      case first =>
        rcases (show kk = 0 ∨ kk = 1 ∨ 2 ≤ kk by omega) with h5 | h5 | h5
        · -- a Way begins
          have d0 : ((kk : Int) == 0) = true := beq_iff_eq.2 (by omega)
          have HH0 : Hid (0 ≤ y.h ∧ y.h < 18446744073709551616) := Lib.hid (wf_bd HYW.out.h)
          go_upto_region 11 with (fail)
          clear d0 h5
          have HNEW := Lib.hid (fun W => room_new y.b y.h HH0.out W); have HRNEW := Lib.hid (fun W => rroom_new y.b y.h HH0.out W)
          have hg6 : MOne ab y.b y.h w6 := ⟨hcell HZ1.out 2, hcell HZ1.out 3⟩
          have hab : ab < w6.heap.size := (Array.getElem?_eq_some_iff.1 HZ1.out).1
          go_cut [10] (fun v wx => ∃ (obk pb rb : Nat), v = .pointer (some ⟨obk, 0, none⟩) ∧ wx.heap[obk]? = some (.cells #[.pointer (some ⟨pb, 0, none⟩), .pointer (some ⟨rb, 0, none⟩)] 104 (0, 0)) ∧ (AM y.b y.h wx w6.heap.size pb ∧ BM y.b y.h wx w6.heap.size rb) ∧ w6.heap.size ≤ obk ∧ Below w6.heap.size w6 wx)
          case first =>
            go_region_held2 (fun W => MOne ab y.b y.h W) (first | exact hg6 | with_reducible assumption | (with_reducible refine wone_al ?_; with_reducible assumption) | (with_reducible refine wone_drew (wone_al ?_); with_reducible assumption) | (with_reducible refine wone_set (wone_set ?_ ?_) ?_ <;> first | with_reducible assumption | omega | (simp; omega))) (first
              | (go_at_call 33; refine (HNEW.out _).mono ?_; intro e wP hh; obtain ⟨pb, hh1, ht, hpl, hb0⟩ := hh; subst hh1; have hsP := wone_below (by with_reducible assumption) hb0; (first | (have hB := below_drwW (w := w6) hb0; have hP : w6.heap.size ≤ pb := hpl; have TP := Lib.hid (show AM y.b y.h wP w6.heap.size pb from ht); have HBP := Lib.hid hB; have hzP := hB.size; clear hB hP) | (have hB := below_alW (w := w6) (o := .cells #[.pointer none, .pointer none] 104) (below_drwW hb0); have zo := (hb0.block _ (Array.getElem?_eq_some_iff.1 (heap_alloc_new w6 (.cells #[.pointer none, .pointer none] 104))).1).trans (heap_alloc_new w6 (.cells #[.pointer none, .pointer none] 104)); have o0 := hcell zo 0; have o1 := hcell zo 1; have of0 := hfrz zo 0; have of1 := hfrz zo 1; have HZO := Lib.hid zo; clear zo; have TP := Lib.hid (ht.lower (below_alloc w6 (.cells #[.pointer none, .pointer none] 104)).size); have HBP := Lib.hid hB; have hzP := hB.size; clear hB)); clear ht hpl hb0)
              | (go_at_call 34; refine (HRNEW.out _).mono ?_; intro e wR hh; obtain ⟨rb, hh1, ht, hpl, hb0⟩ := hh; subst hh1; have hsR := wone_below (by with_reducible assumption) hb0; (first | (have hb1 : Below wP.heap.size wP wR := hb0; (first | (have zo := (hb0.block _ (Array.getElem?_eq_some_iff.1 HZO.out).1).trans HZO.out; clear o0 o1 of0 of1 HZO; have o0 := hcell zo 0; have o1 := hcell zo 1; have of0 := hfrz zo 0; have of1 := hfrz zo 1; have HZO := Lib.hid zo; clear zo) | skip); have q1 := And.intro (TP.out.below hb1) (ht.lower HBP.out.size); have q2 := HBP.out.trans (hb1.mono HBP.out.size); have HF := Lib.hid (And.intro q1 q2); have hzR := q2.size; clear q1 q2 hb1) | (have hb1 := below_alW (w := wP) (o := .cells #[.pointer none, .pointer none] 104) hb0; have zo := (hb0.block _ (Array.getElem?_eq_some_iff.1 (heap_alloc_new wP (.cells #[.pointer none, .pointer none] 104))).1).trans (heap_alloc_new wP (.cells #[.pointer none, .pointer none] 104)); have o0 := hcell zo 0; have o1 := hcell zo 1; have of0 := hfrz zo 0; have of1 := hfrz zo 1; have HZO := Lib.hid zo; clear zo; have q1 := And.intro (TP.out.below hb1) (ht.lower (Nat.le_trans HBP.out.size (below_alloc wP (.cells #[.pointer none, .pointer none] 104)).size)); have q2 := HBP.out.trans (hb1.mono HBP.out.size); have HF := Lib.hid (And.intro q1 q2); have hzR := q2.size; clear q1 q2 hb1)); clear ht hpl hb0))
            all_goals (try go_wp2_with fail)
            all_goals go_meet
            all_goals first
              | (have hs := wop_store HZO.out HF.out.1.1 HF.out.1.2 HF.out.2 (by first | exact Nat.le_refl _ | exact HBP.out.size) (.pointer (some ⟨pb, 0, none⟩)) (.pointer (some ⟨rb, 0, none⟩)); exact ⟨_, pb, rb, rfl, hs.1, hs.2.1, hs.2.2.1, hs.2.2.2⟩)
              | (have hs := wop_store (heap_alloc_new _ (.cells #[.pointer none, .pointer none] 104)) (HF.out.1.1.below (below_alloc _ _)) (HF.out.1.2.below (below_alloc _ _)) (HF.out.2.trans ((below_alloc _ _).mono HF.out.2.size)) HF.out.2.size (.pointer (some ⟨pb, 0, none⟩)) (.pointer (some ⟨rb, 0, none⟩)); exact ⟨_, pb, rb, rfl, hs.1, hs.2.1, hs.2.2.1, hs.2.2.2⟩)
              | exact ⟨_, pb, rb, rfl, heap_alloc_new _ _, ⟨HF.out.1.1.below (below_alloc _ _), HF.out.1.2.below (below_alloc _ _)⟩, HF.out.2.size, HF.out.2.trans ((below_alloc _ _).mono HF.out.2.size)⟩
          case rest =>
          obtain ⟨obk, pb, rb, hcv, hob, ⟨hA, hC⟩, hlo, hbx⟩ := hcut
          subst hcv
          generalize wc = w7 at *
          obtain ⟨d, hdp, hok⟩ := rm_made HH0.out hA hC
          have hsm := osameR hok
          simp only at hsm
          have z0 := hcell hob 0
          have z1 := hcell hob 1
          have HOB := Lib.hid hob; have HOK := Lib.hid hok; have HBX := Lib.hid hbx
          clear hob hok hlo hbx hA hC hg6 hab HNEW HRNEW
          go_upto_region 14 with (go_at_call 35; refine hsm.mono ?_; intro e w9 hh; obtain ⟨hh1, b9⟩ := hh; subst hh1; have HB9 : Hid (Below w6.heap.size w6 w9) := HBX.out.trans (b9.mono HBX.out.size); have HOK9 := Lib.hid (rm_law.below HOK.out b9); have hob9 := (b9.block _ (Array.getElem?_eq_some_iff.1 HOB.out).1).trans HOB.out; clear b9 z0 z1 hsm; have z0 := hcell hob9 0; have z1 := hcell hob9 1; clear hob9)
          have HROW := Lib.hid (HT.out.below rm_law HB9.out).row
          have hLL := hLi
          go_wp2_with (at_builtin; refine wpList_append_own _ rfl _ _ 96 rfl w2.heap.size 104 i0 (.agg #[.pointer none, .pointer none]) 2 16 Tryz.underlying96 I0.out I1.out I2.out I3.out rfl (by decide) _ _ _ rfl (HROW.out.alloc _) ⟨w9.heap.size, 0, none⟩ 1 1 [.pointer (some ⟨pb, 0, none⟩), .pointer (some ⟨rb, 0, none⟩)] rfl rfl ?c1 ?c2 ?c3 ?c4 ?c5 ?_)
          case c1 => exact World.news_of_block (heap_alloc_new w9 _)
          case c2 => simp [Value.oneCell']
          case c3 => unfold maxLen; omega
          case c4 => omega
          case c5 => have := (HT.out.below rm_law HB9.out).d.pr.ws.below.size; simp; omega
          intro v' w11 hown' hgrow _
          have hb10 := below_alloc w9 (.cells #[.pointer (some ⟨pb, 0, none⟩), .pointer (some ⟨rb, 0, none⟩)] 104)
          have hB10 := HB9.out.trans (hb10.mono HB9.out.size)
          have hTb := HT.out.below rm_law hB10
          have hB11 := grown_below (HROW.out.alloc _) hgrow hTb.d.pr.ws.below hTb.d.pr.ws.below.size (Nat.le_refl _)
          have f11 := grown_ty (HROW.out.alloc _) hgrow
          have hoF := rm_law.below HOK9.out hb10
          have hP := HT.out.push rm_law (o := ⟨pb, rb, d⟩) hB10 hTb.d (fun _ h => h) hoF (rm_made_maps hoF hdp) hown' f11 hB11
          have HP := Lib.hid hP
          clear hb10 hB10 hTb hB11 f11 hP hown' hgrow z0 z1 hoF
          go_wp2_with fail
          go_meet
          case rel => exact ⟨V, s, x, L ++ [⟨pb, rb, d⟩], HP.out.le (by omega), by simp; omega⟩
        · -- others store
          have d0 : ((kk : Int) == 0) = false := beq_eq_false_iff_ne.2 (by omega)
          have d1 : ((kk : Int) == 1) = true := beq_iff_eq.2 (by omega)
          clear h5
          have y4 : w6.cell? ⟨ab, 4, none⟩ = some (.int .u64 y.v) := hcell HZ1.out 4
          have y5 : w6.cell? ⟨ab, 5, none⟩ = some (.int .u64 y.i) := hcell HZ1.out 5
          have p0 := hcell HT.out.pq 0
          have p1 := hcell HT.out.pq 1
          have hst := pstore_any HT.out.d.pr (300 + i) HT.out.d.far (by omega) y.v y.i HYW.out.v HYW.out.i
          go_wp2_with (go_at_call 13; refine hst.mono ?_; intro e w7 hh; obtain ⟨hh1, h7, f7⟩ := hh; subst hh1; have HT7 := Lib.hid (HT.out.world rm_law (m' := i + 1) (HT.out.d.acc _ _ _ h7) (fun _ h => h) f7); clear h7 f7 hst p0 p1 y4 y5)
          go_meet
          case rel => exact ⟨_, _, _, L, HT7.out, by omega⟩
        · -- a step
          have d0 : ((kk : Int) == 0) = false := beq_eq_false_iff_ne.2 (by omega)
          have d1 : ((kk : Int) == 1) = false := beq_eq_false_iff_ne.2 (by omega)
          clear h5
          by_cases hL : L.length = 0
          · have d4 : decide ((0 : Int) < L.length) = false := decide_eq_false (by omega)
            have d4n : decide (0 < L.length) = false := decide_eq_false (by omega)
            clear hL
            go_wp2_with fail
            go_meet
            case rel => exact ⟨_, _, _, L, HT.out.le (by omega), by omega⟩
          · have d4 : decide ((0 : Int) < L.length) = true := decide_eq_true (by omega)
            have d4n : decide (0 < L.length) = true := decide_eq_true (by omega)
            go_upto_region 18 with (fail)
            clear d0 d1 d4 d4n
            have hab := wf_u8 HYW.out.a
            have hlp : (0 : Int) < L.length := by omega
            obtain ⟨j, hj⟩ : ∃ j : Nat, (j : Int) = y.a % L.length := ⟨(y.a % L.length).toNat, by have := Int.emod_nonneg y.a (show (L.length : Int) ≠ 0 by omega); omega⟩
            have hjl : j < L.length := by have := Int.emod_lt_of_pos y.a hlp; omega
            have hjl' : (j : Int) < L.length := by omega
            have e1 : wrap64 y.a = y.a := IntWalk.wrap64_in _ (by omega)
            have e2 : y.a.tmod L.length = j := by rw [Int.tmod_eq_emod_of_nonneg hab.1, hj]
            have e4 : ((L.length : Int) == 0) = false := beq_eq_false_iff_ne.2 (by omega)
            obtain ⟨g, gcap, hv, k0, k1⟩ := HT.out.at j hjl
            simp only [Value.slice.injEq, true_and] at hv
            obtain ⟨rfl, rfl⟩ := hv
            obtain ⟨o, ho⟩ : ∃ o, o = L[j]'hjl := ⟨_, rfl⟩
            rw [← ho] at k0 k1
            have x1 : w6.cell? ⟨ab, 1, none⟩ = some (.int .u8 y.a) := hcell HZ1.out 1
            have HO := Lib.hid ho
            clear hj hab hL ho
            go_upto_region 19 with (fail)
            clear x1 k0 k1 e1 e2 e4 hlp hjl'
            have hb8 := below_alloc w6 (.cells #[.pointer (some ⟨o.pb, 0, none⟩), .pointer (some ⟨o.rb, 0, none⟩)] 104)
            have hz8 := heap_alloc_new w6 (.cells #[.pointer (some ⟨o.pb, 0, none⟩), .pointer (some ⟨o.rb, 0, none⟩)] 104)
            have HT8 := Lib.hid (HT.out.below rm_law hb8); have HZ8 := Lib.hid hz8
            clear hb8 hz8
            change Code.wp _ _ _ _ (w6.alloc (.cells #[.pointer (some ⟨o.pb, 0, none⟩), .pointer (some ⟨o.rb, 0, none⟩)] 104))
            generalize w6.alloc (.cells #[.pointer (some ⟨o.pb, 0, none⟩), .pointer (some ⟨o.rb, 0, none⟩)] 104) = w8 at *
            generalize w6.heap.size = ob at *
            obtain ⟨S, hoS, hmS, hput⟩ := HT8.out.take rm_law j hjl
            rw [← HO.out] at hoS
            have HOS := Lib.hid hoS; have HMS := Lib.hid hmS; have HPUT := Lib.hid hput
            obtain ⟨M, hst, hM1, hM2, hM3⟩ := rm_two HT8.out.d (by omega) hoS hmS
            have HM1 := Lib.hid hM1; have HM2 := Lib.hid hM2; have HM3 := Lib.hid hM3
            have z1 := hcell HZ8.out 1
            have p1 := hcell HT8.out.pq 1
            clear hoS hmS hput hM1 hM2 hM3
            go_upto_region 20 with (go_at_call 36; refine hst.mono ?_; intro e w9 hh; obtain ⟨hh1, y2, hM⟩ := hh; subst hh1; have HM := Lib.hid hM; clear hM hst z1 p1)
            have hf9 := (HM1.out _ _ HM.out).2
            have hzo9 := hf9.cells _ _ _ _ HZ8.out rfl (rm_law.no HOS.out HZ8.out rfl)
            have hzq9 := hf9.cells _ _ _ _ HT8.out.pq rfl (rm_law.no HOS.out HT8.out.pq rfl)
            have hb9 : Below w9.heap.size w9 w9.drew := (Below.refl _ _).drew
            have hM9 := HM2.out _ _ _ HM.out hb9
            have hsx2 := HM3.out _ _ hM9
            have hln := (HM1.out _ _ hM9).1.c.1
            obtain ⟨ln, hl2⟩ : ∃ ln, ln = y2.line := ⟨_, rfl⟩
            rw [← hl2] at hsx2 hln
            obtain ⟨ov, hlo⟩ : ∃ ov, (ln == 0) = ov := ⟨_, rfl⟩
            rw [hlo] at hsx2
            have HLN2 := Lib.hid hl2
            have s9 : WTwo ob q o.pb o.rb B.wb R.wb ln w9.drew := ⟨hcell hzo9 0, hcell hzo9 1, hcell hzq9 0, hcell hzq9 1, hln⟩
            clear hf9 hzo9 hzq9 hb9 hM9 hln hl2 HM HM1 HM2 HM3
            cases ov
            all_goals
              go_region_held2 (fun W => WTwo ob q o.pb o.rb B.wb R.wb ln W) (with_reducible assumption) (first
                | (go_at_call 37; refine hsx2.mono ?_; intro e wX hh; obtain ⟨hh1, d2, V', s', x', S', hdy, hd, hwp, hmp, hsub, hfr⟩ := hh; subst hh1; have hzoX := hfr.cells _ _ _ _ HZ8.out rfl (rm_law.no HOS.out HZ8.out rfl); have hzqX := hfr.cells _ _ _ _ HT8.out.pq rfl (rm_law.no HOS.out HT8.out.pq rfl); have hsm := osameR hwp; simp only at hsm; have clX := hwp.r.c.1; simp only at clX; rw [hdy, ← HLN2.out] at clX; have sX : WTwo ob q o.pb o.rb B.wb R.wb ln wX := ⟨hcell hzoX 0, hcell hzoX 1, hcell hzqX 0, hcell hzqX 1, clX⟩; have hpt := HPUT.out wX V' s' x' (i + 1) ⟨o.pb, o.rb, d2⟩ S' (by rw [← HO.out]) (by rw [← HO.out]) hd hwp hmp hsub hfr; have HPT := Lib.hid hpt; clear hd hwp hmp hsub hfr hzoX hzqX hpt clX hdy hsx2 s9)
                | (go_at_call 35; refine hsm.mono ?_; intro e wY hh; obtain ⟨hh1, bY⟩ := hh; subst hh1; have sY : WTwo ob q o.pb o.rb B.wb R.wb ln wY := wtwo_below sX bY; have HY := Lib.hid (HPT.out.below rm_law bY); clear bY hsm sX))
              all_goals (try go_wp2_with fail)
              all_goals go_meet
              all_goals
                case rel => exact ⟨V', s', x', _, HY.out, by rw [List.length_set]; omega⟩
      case rest =>
      clear HT HZ1 HYW
      obtain ⟨V', s', x', L', hT2, hL2⟩ := hcut
      have p0 := hcell hT2.pq 0
      have p1 := hcell hT2.pq 1
      have hps := psame_any hT2.d.pr
      have HT2 := Lib.hid hT2
      clear hT2
      go_wp2_with (go_at_call 16; refine hps.mono ?_; intro e w9 hh; obtain ⟨hh1, b9⟩ := hh; subst hh1; have HT9 := Lib.hid (HT2.out.below rm_law b9); clear hps b9 p0 p1)
      go_roundw
      case rel => exact ⟨i + 1, V', s', x', L', by omega, by go_num, HT9.out, hL2⟩
      case measure => simp [intOf]; omega
    · obtain rfl : i = l.length := by omega
      have p0 := hcell hT.pq 0
      have p1 := hcell hT.pq 1
      have o6 := psalln_any hT.d.pr (by have := hT.d.nn; omega) hT.d.nk (by have := hT.d.ni; omega) (by have := hT.d.far.1; omega)
      have HT := Lib.hid hT
      clear hT hlt
      go_wp2_with (first
        | (go_at_call 17; refine o6.mono ?_; intro e w17 hh; obtain ⟨hh1, b17⟩ := hh; subst hh1; have HB17 := Lib.hid b17; clear o6 b17 p0 p1)
        | (go_at_call 32; refine (lives18 _).mono ?_; rintro e w18 ⟨rfl, b18⟩))
      go_ret
      have h0 := HT.out.d.pr.ws.below
      have h1 := h0.trans (HB17.out.mono h0.size)
      have h2 := h1.trans (b18.mono h1.size)
      exact ⟨rfl, HBB.out.trans (h2.mono HBB.out.size)⟩
set_option maxRecDepth 10000 in
theorem walkRoomsPlay {H1 : Type} (w : World) (enc : TypeId × Value → H1) (base : Nat) (v : Value) (d : DataW H1) (p : List MemPlace) (k : DataW.Trod enc Tryz.prog w 0 (fun _ => true) true 28 v d p) (o : Value.okWide Tryz.prog w .any base 28 v)
    (enc2 : TypeId × Value → H1) (base2 : Nat) (v2 : Value) (d2 : DataW H1) (p2 : List MemPlace) (k2 : DataW.Trod enc2 Tryz.prog w 0 (fun _ => true) true 95 v2 d2 p2) (o2 : Value.okWide Tryz.prog w .any base2 95 v2) :
    Calls Tryz.prog 6 #[v, v2] w fun e w' => e = .returned (.bool true) ∧ Below w.heap.size w w' := by
  have hl : leaves Tryz.prog 6 95 = some [.sl rmacLeaves] := by kernel_rfl
  obtain ⟨f, rfl, hr⟩ := fst_open k o
  obtain ⟨a1, n1, cap1, rfl⟩ := Go.WideShapes.okWide_slice Tryz.underlying95 o2
  obtain ⟨l, hll, hac⟩ := rmacts_of (opened hl k2).1
  subst hll
  exact rplay_any f l a1 cap1 w hr hac
end Go.Proofs.YtmakjfeepmiggaaGreat