/-
  Texts of this prover, merged: RoomsMake.
-/
import Derived.Test.YtdbgfidnccpmdaaGreatPC
import Derived.Test.YtdbgfidnccpmdaaGreatP2
import Derived.Test.YtdbgfidnccpmdaaGreatP1
/-
  RoomsMake: by itself a Room gets a slot just if a way leads to one. (written by genrmake.py)
-/
namespace Go.Proofs.YtdbgfidnccpmdaaGreat
open Go.RowKit Go.Maps TagPure
set_option linter.unusedVariables false

theorem load_row_h {P : Program} {ops : Array Oper} {rest : List Oper} {o : Oper} {a : Act} {w : World} {Q : Exit → Act → World → Prop} (hw : Region.wanted o (yielded ops a.tmps) = true) (ty : TypeId) (x : Operand) (ho : o.op = .load ty x)
    (g : Nat) (hx : a.eval x = .pointer (some ⟨g, 0, none⟩)) (t : TypeId) (cs : Array Value) (fr : Nat × Nat) (d : TypeDesc) (hg : w.heap[g]? = some (.cells cs t fr))
    (hu : P.underlying ty = some d) (hd : (match d with | .struct _ | .array _ _ => true | _ => false) = true) (hi : (P.info? ty).map (·.size) = some cs.size)
    (h : wpList P ops Q rest (a.put o.dst (.agg cs)) w) : wpList P ops Q (o :: rest) a w :=
  BigFrame.wpList_want hw fun _ hK => wp_load_row ty x ho g hx t cs fr d hg hu hd hi (hK _ _ h)
theorem st_ints18 (v : Int → Int) (b : Int) (i n : Nat) : stRow v b i n = (((List.range n).map fun r => (stC v b i r : Int)).map (Value.int .i64)) := by simp [stRow, List.map_map, Function.comp_def]
theorem st_eq18 (v : Int → Int) (b : Int) (i : Nat) (w : World) : (Op.equalIn 10000 131 (.agg (stRow v b i 64).toArray) (.agg (stRow v b i 64).toArray)).run Tryz.prog w = .ok true w := by
  obtain ⟨inf, hi, hs⟩ : ∃ inf, Tryz.prog.info? 3 = some inf ∧ inf.size = 1 := by
    have h : (Tryz.prog.info? 3).map (·.size) = some 1 := by kernel_rfl
    cases hh : Tryz.prog.info? 3 with
    | none => simp [hh] at h
    | some inf => exact ⟨inf, rfl, by simpa [hh] using h⟩
  rw [st_ints18, run_eq_ints (P := Tryz.prog) (ik := .i64) Tryz.underlying131 Tryz.underlying3 hi hs (by kernel_rfl) 9998 _ _ (by simp) (by simp) w]
  simp
theorem st_eql18 (v : Int → Int) (b : Int) (i : Nat) (w : World) : (binOp .eql 131 (.agg (stRow v b i 64).toArray) (.agg (stRow v b i 64).toArray)).run Tryz.prog w = .ok (.bool true) w := by
  rw [run_eql_struct, st_eq18]; rfl
theorem val_way (B : WB) (V : WV) (m : Int) : (B.val V).setIfInBounds 7 (.int .i64 m) = B.val { V with c := { V.c with way := m } } := by
  unfold WB.val worldV
  rw [List.setIfInBounds_toArray]
  rfl
theorem FS.fr_room {rb : Nat} {w W : World} {cs : Array Value} (h : FS [rb] w W) (hb : w.heap[rb]? = some (.cells cs 250 (0, 0))) : Fr (fun T => wTy T || T == 250) true w W :=
  ⟨h.size, fun k c T f h1 h2 => h.cells k c T f h1 (by simp only [Bool.or_eq_false_iff] at h2; exact h2.1) (fun e => by
    obtain rfl := List.mem_singleton.1 e
    rw [hb] at h1
    simp only [Option.some.injEq, Obj.cells.injEq] at h1
    rw [← h1.2.1] at h2
    simp at h2), fun c => by cases c⟩
theorem room_y (T : TypeId) (h : yTy T = true) : (wTy T || T == 250) = false := by
  rw [w_not_y T h, room_not_y T h]; rfl
theorem WayH.stepK {K : TypeId → Bool} {w0 w w' : World} {B : WB} {V V2 : WV} {s' : CS} {lo xb : Nat} {bits : Int} {r : Nat × List Nd × List (Int × Int) × Bool} (h : WayH w lo xb V bits r) (hw : WS w0 w' B V2 s') (hq : ∀ q ∈ V.fm, q ∈ V2.fm) (hf : Fr K true w w') (hK : ∀ T, yTy T = true → K T = false) : WayH w' lo xb V2 bits r := by
  obtain ⟨x, m, es, cl, h1, h2, h3, h4⟩ := h
  have e := (hw.fmk _ (hq _ h4)).1
  refine ⟨x, m, es, cl, ⟨h1.at_.frm hf hK (fun m' hm' => ?_), h1.bits_, h1.l, h1.way, h1.over, h1.ok⟩, h2, e, hq _ h4⟩
  rw [h2] at hm'; cases hm'
  exact e.trans h3.symm
theorem wfrom_K {K : TypeId → Bool} {w w' : World} {base : Nat} {a : Option Addr} {ws : List (Int × Int)} (h : WFrom w base a ws 0) (hf : Fr K true w w') (hK : K 154 = false) : WFrom w' base a ws 0 := by
  rcases h with h | ⟨g, cur, h1, h2, h3, h4⟩
  · exact .inl h
  · exact .inr ⟨g, cur, h1, h2, hf.cells _ _ _ _ h3 hK, h4⟩
theorem wfrom_at18 {w : World} {base : Nat} {a : Option Addr} {ws : List (Int × Int)} (h : WFrom w base a ws 0) (k : Nat) (hk : k < ws.length) : ∃ g, a = some ⟨g, 0, none⟩ ∧ w.cell? ⟨g, k * 2, none⟩ = some (.int .u64 (ws[k]).1) ∧ w.cell? ⟨g, k * 2 + 1, none⟩ = some (.int .u64 (ws[k]).2) := by
  rcases h with h | ⟨g, cur, rfl, _, hg, hc⟩
  · omega
  · obtain ⟨c1, c2⟩ := hc k (Nat.zero_le _) hk
    exact ⟨g, rfl, (hcell hg _).trans c1, (hcell hg _).trans c2⟩
set_option maxRecDepth 100000 in
set_option maxHeartbeats 8000000 in
theorem rmake_any (f : Ful) (w : World) (hr : FulRd w f) : Calls Tryz.prog 8 #[.agg f.cells] w fun e w' => e = .returned (.bool true) ∧ Below w.heap.size w w' := by
  have hB := below_alloc w (.cells f.cells 130)
  have z := heap_alloc_new w (.cells f.cells 130)
  have HR := Lib.hid (hr.below hB); have HB := Lib.hid hB; have HZ := Lib.hid z
  clear hr hB z
  go_enter Tryz.func8, Tryz.ntmps8
  go_upto_region 1 with (fail)
  change Code.wp _ _ _ _ (w.alloc (.cells f.cells 130))
  obtain ⟨w1, hw1⟩ : ∃ w1, w1 = w.alloc (.cells f.cells 130) := ⟨_, rfl⟩
  rw [← hw1] at HR HB HZ ⊢
  clear hw1
  obtain ⟨pq, hpq⟩ : ∃ pq, pq = w.heap.size := ⟨_, rfl⟩
  rw [← hpq] at HZ ⊢
  have HPQ := Lib.hid hpq
  clear hpq
  obtain ⟨e0, e1, e2, e3, e4, e5⟩ := ful_cells HZ.out
  have hgr := ful_great f w1 HR.out
  unfold FulGr at hgr
  go_upto_if 26 with (go_at_call 50; refine hgr.mono ?_; intro e w2 hh; obtain ⟨g, hh1, b2, hg⟩ := hh; subst hh1; have B2 := Lib.hid b2; have HG := Lib.hid hg; clear b2 hg hgr e0 e1 e2 e3 e4 e5; cases g)
  rotate_left
  · go_wp2_with (go_at_call 44; refine (lives18 _).mono ?_; rintro e w3 ⟨rfl, b3⟩)
    go_ret
    have h1 := HB.out.trans (B2.out.mono HB.out.size)
    exact ⟨rfl, h1.trans (b3.mono h1.size)⟩
  obtain ⟨hkl, hll, hsl⟩ := HG.out trivial
  have hr2 := HR.out.below B2.out
  have HR2 := Lib.hid hr2
  have HB2 := Lib.hid (HB.out.trans (B2.out.mono HB.out.size))
  have hz2 := (B2.out.block _ (Array.getElem?_eq_some_iff.1 HZ.out).1).trans HZ.out
  have HZ2 := Lib.hid hz2
  obtain ⟨e0, e1, e2, e3, e4, e5⟩ := ful_cells hz2
  have hfw := ful_world f w2 hr2 hkl hll
  unfold FWPost at hfw
  have HKL := Lib.hid hkl; have HSL := Lib.hid hsl
  clear hr2 hz2 hkl hll hsl HG B2 HB HR HZ
  obtain ⟨b, hb⟩ : ∃ b, b = fbits f := ⟨_, rfl⟩
  have hbi := fbits_in f
  rw [← hb] at hfw hbi
  have HBI := Lib.hid hbi
  clear hb hbi
  go_upto_region 6 with (go_at_call 51; refine hfw.mono ?_; intro e w3 hh; obtain ⟨w0, B, s, had, hbw, hh1, hf⟩ := hh; subst hh1; have HF := Lib.hid hf; have HBW := Lib.hid hbw; clear hfw hf hbw e0 e1 e2 e3 e4 e5)
  have hits : (fitms f).length ≤ 40 := by unfold fitms; rw [List.length_map]; exact HKL.out
  have hkeys : ∀ x ∈ fitms f, x.key.size ≤ maxLen := fun x hx => by
    obtain ⟨k, hk, rfl⟩ := List.mem_map.1 hx
    exact HR2.out.keys.sz k hk
  obtain ⟨V, hV⟩ : ∃ V : WV, V = { v0 ⟨b, 8, 3, 1, 16⟩ with its := fitms f, fm := [] } := ⟨_, rfl⟩
  have hws := HF.out.ws
  rw [← hV] at hws
  have hVi : V.its = fitms f := by rw [hV]
  have HVI := Lib.hid hVi
  have HVN := Lib.hid (show V.nts = [] by rw [hV]; rfl)
  have HFK := Lib.hid HR2.out.key
  have HMO := Lib.hid HR2.out.most
  have HWS := Lib.hid hws; have HITS := Lib.hid hits; have HKEYS := Lib.hid hkeys
  have HLO := Lib.hid (show w2.heap.size ≤ w0.heap.size from HBW.out.size)
  have HBB := Lib.hid (HB2.out.trans (HBW.out.mono HB2.out.size))
  have HRF := Lib.hid (fun (W : World) (hW : Below w0.heap.size w0 W) => (HR2.out.below HBW.out).below hW)
  have HZF := Lib.hid (fun (W : World) (hW : Below w0.heap.size w0 W) => show W.heap[pq]? = some (.cells f.cells 130 (0, 0)) from by
    have h1 := (HBW.out.block _ (Array.getElem?_eq_some_iff.1 HZ2.out).1).trans HZ2.out
    exact (hW.block _ (Array.getElem?_eq_some_iff.1 h1).1).trans h1)
  clear hws hV hVi hits hkeys HR2 HB2 HZ2 HBW
  -- the config's Way
  have et : f.most.tmod 20 = f.most % 20 := Int.tmod_eq_emod_of_nonneg HMO.out.1
  have g1 : 0 ≤ f.most % 20 ∧ f.most % 20 < 1000000 := by omega
  have g2 : 0 ≤ 2 + f.most % 20 ∧ 2 + f.most % 20 < 1000000 := by omega
  obtain ⟨mw, hmw⟩ : ∃ mw, 2 + f.most % 20 = mw := ⟨_, rfl⟩
  have HMW := Lib.hid (show 2 ≤ mw ∧ mw ≤ 21 by omega)
  have HMX := Lib.hid hmw
  have em1 : wrap64 (f.most % 20) = f.most % 20 := w64s rfl g1
  have em2 : wrap64 (2 + f.most % 20) = 2 + f.most % 20 := w64s rfl g2
  have em3 : wrap64 (f.most.tmod 20) = f.most % 20 := by rw [et]; exact em1
  clear g1 g2 hmw
  obtain ⟨-, -, -, -, e4, -⟩ := ful_cells (HZF.out w3 HWS.out.below)
  have c7 : w3.cell? ⟨B.wb, 7, none⟩ = some (.int .i64 V.c.way) := (HWS.out.cell 7).trans rfl
  have f7 := HWS.out.frz 7
  go_upto_region 7 with (fail)
  rw [HMX.out]
  change Code.wp _ _ _ _ (w3.setCell ⟨B.wb, 7, none⟩ (.int .i64 mw))
  obtain ⟨hws4, hfr4⟩ := HWS.out.set 7 (.int .i64 mw) { V with c := { V.c with way := mw } } (val_way B V mw) rfl rfl HWS.out.tkl
  obtain ⟨V1, hV1⟩ : ∃ V1 : WV, V1 = { V with c := { V.c with way := mw } } := ⟨_, rfl⟩
  rw [← hV1] at hws4
  have HV1 := Lib.hid (show V1.its = fitms f ∧ V1.nts = [] ∧ V1.c.way = mw by rw [hV1]; exact ⟨HVI.out, HVN.out, rfl⟩)
  have H4 := Lib.hid hws4
  clear hws4 hfr4 hV1 c7 f7 e4 em1 em2 em3 et HWS HVI HVN HMX
  generalize w3.setCell ⟨B.wb, 7, none⟩ (.int .i64 mw) = w4 at *
  -- the stand
  have hts : Tbl b V1.its s.val := by rw [HV1.out.1]; exact HF.out.tb.tbl
  have hil : V1.its.length ≤ 40 := by rw [HV1.out.1]; exact HITS.out
  have hks : ∀ x ∈ V1.its, x.key.size ≤ maxLen := by rw [HV1.out.1]; exact HKEYS.out
  have hst := stand18_any H4.out hts hil hks
  obtain ⟨R1, hR1⟩ : ∃ R1, R1 = (stRow s.val b (4 * (tsize b).toNat) 64).toArray := ⟨_, rfl⟩
  rw [← hR1] at hst
  have hr64 : R1.size = 64 := by rw [hR1, List.size_toArray, stRow_len]
  have hsz : Hid ((Tryz.prog.info? 131).map (·.size) = some R1.size) := by show _ = some R1.size; rw [hr64]; kernel_rfl
  have hold : Hid ((Array.replicate 64 (Value.int .i64 0)).size = R1.size) := by show _ = _; rw [hr64]; rfl
  have hone : Hid (R1.all (·.oneCell') = true) := by show _ = _; rw [hR1]; exact stRow_one _ _ _ _
  have heql : ∀ W, (binOp .eql 131 (.agg R1) (.agg R1)).run Tryz.prog W = .ok (.bool true) W := fun W => by rw [hR1]; exact st_eql18 _ _ _ W
  have heqi : ∀ W, (Op.equalIn 10000 131 (.agg R1) (.agg R1)).run Tryz.prog W = .ok true W := fun W => by rw [hR1]; exact st_eq18 _ _ _ W
  have HTS := Lib.hid hts; have HIL := Lib.hid hil; have HKS := Lib.hid hks; have HR1 := Lib.hid hR1; have HEQL := Lib.hid heql; have HEQI := Lib.hid heqi
  clear hts hil hks hR1 hr64 heql heqi
  go_upto_region 8 with (first
    | (go_at_call 52; (with_reducible refine hst.mono ?_); intro e w5 hh; obtain ⟨hh1, b5⟩ := hh; subst hh1; have B5 := Lib.hid b5; have hzr := Lib.hid (heap_alloc_new w5 (.cells (Array.replicate 64 (.int .i64 0)) 131)); clear b5 hst)
    | (refine wpList_store_row rfl 131 _ _ rfl w5.heap.size R1 rfl rfl 131 (Array.replicate 64 (.int .i64 0)) hzr.out hsz.out hold.out hone.out ?_))
  have hbA := below_alloc w5 (.cells (Array.replicate 64 (.int .i64 0)) 131)
  have hB6 : Below w4.heap.size w4 ((w5.alloc (.cells (Array.replicate 64 (.int .i64 0)) 131)).setRow w5.heap.size R1) := below_setRow (B5.out.trans (hbA.mono B5.out.size)) B5.out.size R1
  have hz6 : ((w5.alloc (.cells (Array.replicate 64 (.int .i64 0)) 131)).setRow w5.heap.size R1).heap[w5.heap.size]? = some (.cells R1 131 (0, 0)) := setRow_heap _ _ _ _ _ _ hzr.out
  change Code.wp _ _ _ _ ((w5.alloc (.cells (Array.replicate 64 (.int .i64 0)) 131)).setRow w5.heap.size R1)
  clear hbA hzr B5
  generalize (w5.alloc (.cells (Array.replicate 64 (.int .i64 0)) 131)).setRow w5.heap.size R1 = w6 at *
  generalize w5.heap.size = q4 at *
  have H6 := Lib.hid (H4.out.keep hB6); have Z6 := Lib.hid hz6
  clear hB6 hz6 H4
  -- the key's buckets
  obtain ⟨q1, q2, q3⟩ := as_one (b := b) ⟨HBI.out.1, by have := HBI.out.2; omega⟩
  have has := fun W => as_any (tword b 0) (tword_wf4 ⟨HBI.out.1, by have := HBI.out.2; omega⟩) W
  rw [q1, q2] at has
  have hpk := H6.out.peek 2 (by decide)
  rw [HF.out.tb.tbl.word] at hpk
  have c0 := H6.out.c0
  clear q1 q2 q3
  go_upto_region 9 with (first
    | (go_at_call 33; refine hpk.mono ?_; intro e w' hh; obtain ⟨hh1, hh2⟩ := hh; subst hh1; obtain rfl := hh2.symm; clear hpk)
    | (go_at_call 53; refine (has _).mono ?_; intro e w' hh; obtain ⟨hh1, hh2⟩ := hh; subst hh1; obtain rfl := hh2.symm; clear has))
  obtain ⟨-, -, -, e3, -, -⟩ := ful_cells (HZF.out w6 H6.out.below)
  obtain ⟨h0, h1⟩ := hfold_bd f.key f.key.size
  obtain ⟨hs, hhs⟩ : ∃ hs, hs = hashOf f.key := ⟨_, rfl⟩
  have hha := fun W => hash_big f.key HFK.out W
  have h0 : 0 ≤ hs := by rw [hhs]; exact h0
  have h1 : hs < 18446744073709551616 := by rw [hhs]; exact h1
  rw [← hhs] at hha
  have hb12 : 1 ≤ b ∧ b ≤ 12 := ⟨HBI.out.1, by have := HBI.out.2; omega⟩
  have hbk := Lib.hid (fun W => bucket_fn hs b h0 h1 hb12 W)
  have htg := Lib.hid (fun W => tag_fn hs h0 h1 W)
  have hkb := bk_bd hs b hb12
  have htb := tag01_bd hs h0 h1
  have hot := Lib.hid (fun W => other_fn (bk hs b) (tag01 hs) b hb12 hkb htb W)
  have hob := oth_bd0 (bk hs b) (tag01 hs) b hb12 hkb (by omega)
  have hnr := fun W => newroom_ok b hs hb12 ⟨h0, h1⟩ W
  generalize oth (bk hs b) (tag01 hs) b = u2 at *
  generalize bk hs b = u1 at *
  generalize tag01 hs = tgx at *
  have HNR := Lib.hid hnr; have HKU := Lib.hid hkb; have HOU := Lib.hid hob; have HB12 := Lib.hid hb12
  clear hnr hkb htb hob h0 h1 hhs c0 hb12
  go_upto_region 12 with (first
    | (go_at_call 32; refine (hha _).mono ?_; intro e w7 hh; obtain ⟨hh1, b7⟩ := hh; subst hh1; have H7 := Lib.hid (H6.out.keep b7); have Z7 := Lib.hid ((b7.block _ (Array.getElem?_eq_some_iff.1 Z6.out).1).trans Z6.out); clear b7 e3 hha)
    | (go_at_call 54; refine (hbk.out _).mono ?_; intro e w' hh; obtain ⟨hh1, hh2⟩ := hh; subst hh1; obtain rfl := hh2.symm)
    | (go_at_call 56; refine (htg.out _).mono ?_; intro e w' hh; obtain ⟨hh1, hh2⟩ := hh; subst hh1; obtain rfl := hh2.symm)
    | (go_at_call 55; refine (hot.out _).mono ?_; intro e w' hh; obtain ⟨hh1, hh2⟩ := hh; subst hh1; obtain rfl := hh2.symm))
  clear H6 Z6 hbk htg hot
  -- the way
  have c7 : w7.cell? ⟨B.wb, 7, none⟩ = some (.int .i64 mw) := (H7.out.cell 7).trans (by rw [← HV1.out.2.2]; rfl)
  have hnw := fun W => newway_ok b u1 u2 mw HKU.out HOU.out W
  go_upto_region 13 with (go_at_call 57; refine (hnw _).mono ?_; intro e w8 hh; obtain ⟨xb, kb, mb, hh1, hx, bx, hmb, hkb⟩ := hh; subst hh1; have HX := Lib.hid hx; have BX := Lib.hid bx; have HMK := Lib.hid (And.intro hmb hkb); have Z8 := Lib.hid ((bx.block _ (Array.getElem?_eq_some_iff.1 Z7.out).1).trans Z7.out); clear hx bx hmb hkb hnw c7)
  obtain ⟨R, hR⟩ : ∃ R, R = fway s.val b mw u1 u2 99 := ⟨_, rfl⟩
  have HR := Lib.hid hR
  have hbd : s.n ≤ 241 ∧ s.cnt ≤ 241 := by have := HF.out.bd; omega
  have hrun := newrunH (tab := tabV s.val b) 99 (by decide) 241 hbd (by unfold lim; decide) H7.out BX.out HX.out HMK.out.1 HMK.out.2 HB12.out HKU.out HOU.out (fun _ _ _ => rfl) R hR
  have hst8 := fway_steps (v := s.val) (b := b) (most := mw) HBI.out HKU.out HOU.out (n := 99) (by omega)
  rw [← hR] at hst8
  have HST := Lib.hid hst8; have HBD := Lib.hid hbd
  clear hst8 hbd hR
  go_upto_region 14 with (go_at_call 36; refine hrun.mono ?_; intro e w9 hh; obtain ⟨hh1, p, s2, h9, hwh, v9, c9, n9, f9, -⟩ := hh; subst hh1; have H9 := Lib.hid h9; have P9 := Lib.hid (And.intro v9 (And.intro c9 n9)); have WH9 := Lib.hid hwh; have Z9 := Lib.hid (f9.cells _ _ _ _ Z7.out rfl); clear h9 hwh v9 c9 n9 f9 hrun)
  clear HX BX HMK H7 Z7 Z8
  have c0 := H9.out.c0
  have hb9 : s2.n ≤ 249 ∧ s2.cnt ≤ 249 := by have h1 := P9.out; have h2 := HBD.out; have h3 := HST.out.2; omega
  have HB9 := Lib.hid hb9
  have hwd := words_own H9.out.own (by omega)
  go_upto_region 15 with (go_at_call 58; refine hwd.mono ?_; rintro e w10 ⟨ga, ws, rfl, hws, b10⟩; have H10 := Lib.hid (H9.out.keep b10); have WH10 := Lib.hid (WayH.below WH9.out b10); have Z10 := Lib.hid ((b10.block _ (Array.getElem?_eq_some_iff.1 Z9.out).1).trans Z9.out); have W10 := Lib.hid hws; clear hws b10 hwd c0)
  clear H9 WH9 Z9 hb9
  have c2 := H10.out.hd5.2.2.1
  have hnc := lcount_any H10.out.nt
  rw [show ((V1.plus p).nts.length : Int) = 0 by show (V1.nts.length : Int) = 0; rw [HV1.out.2.1]; rfl] at hnc
  have hwl : ws.length ≤ 1000000 := W10.out.most
  go_upto_region 17 with (first
    | (go_at_call 35; refine hnc.mono ?_; intro e w' hh; obtain ⟨hh1, hh2⟩ := hh; subst hh1; obtain rfl := hh2.symm; clear hnc c2)
    | (go_at_call 45; refine (HNR.out _).mono ?_; intro e w11 hh; obtain ⟨rb, hh1, a11, b11⟩ := hh; subst hh1; have H11 := Lib.hid (H10.out.keep b11); have WH11 := Lib.hid (WayH.below WH10.out b11); have Z11 := Lib.hid ((b11.block _ (Array.getElem?_eq_some_iff.1 Z10.out).1).trans Z10.out); have WF11 := Lib.hid (wfrom_below W10.out.row b11); have A11 := Lib.hid a11; clear a11 b11))
  have WX := Lib.hid W10.out
  have HL10 := Lib.hid H10.out.below.size
  clear H10 WH10 Z10 W10
  -- the Room's run
  have hra : RoomAt w11 w0.heap.size rb (rmnew b u1 u2) := A11.out.lower HL10.out
  obtain ⟨csr, hrb⟩ := hra.blk
  have HRB := Lib.hid hrb
  have hall := rrun_room (c0 := 449) (V := V1.plus p) (s := s2) (its := V1.its) (by rw [P9.out.1]; exact HTS.out) (by have := HIL.out; omega) (by rw [P9.out.1]; exact HF.out.tb.ev) H11.out hra HKU.out HOU.out HV1.out.2.1 (by have := HB9.out; omega) (by unfold lim; decide)
  obtain ⟨n, hn, hrr⟩ := hall
  have hrun := roomrun n 900 (by omega) (by decide) hrr
  clear hra hrb hrr
  go_upto_region 18 with (go_at_call 36; refine hrun.mono ?_; intro e w12 hh; obtain ⟨hh1, h12⟩ := hh; subst hh1; have E12 := Lib.hid h12; clear h12 hrun)
  clear hn
  obtain ⟨s3, xr, x1, x2, x3, x4, x5, hcs⟩ := E12.out
  have hway : (fway s2.val b (V1.plus p).c.way u1 u2 99) = R := by rw [P9.out.1, show (V1.plus p).c.way = mw from HV1.out.2.2]; exact HR.out.symm
  rw [hway] at hcs
  have F12 := Lib.hid (x3.fr_room HRB.out)
  have Z12 := Lib.hid (F12.out.cells _ _ _ _ Z11.out rfl)
  have WF12 := Lib.hid (wfrom_K WF11.out F12.out rfl)
  have X12 := Lib.hid x1; have HPH := Lib.hid x2; have HB3 := Lib.hid (And.intro x4 x5)
  obtain ⟨Wy, hWy⟩ : ∃ Wy, Wy = R.2.2.1 := ⟨_, rfl⟩
  rw [← hWy] at hcs
  have HWY := Lib.hid hWy
  have hwl8 : Wy.length ≤ 10000 := by
    have h1 := way_le8 (v := s.val) (most := mw) HBI.out HKU.out HOU.out (n := 99) (by omega)
    rw [← HR.out, ← hWy] at h1; exact h1
  have HWL8 := Lib.hid hwl8
  clear x1 x2 x3 x4 x5 hway hWy hwl8 E12 Z11 WF11
  rcases hcs with ⟨k1, k2, k3, kk, k4⟩ | ⟨k1, k2, k4, k5, k6, k7, k8, k9, k10, k11⟩
  · -- no way
    have hg := rmgot X12.out
    rw [k2, if_neg (by decide)] at hg
    have H12 := Lib.hid k4
    have WH12 := Lib.hid (WH11.out.stepK k4 (fun q hq => hq) F12.out room_y)
    have HV3 := Lib.hid (k3.trans P9.out.1)
    have HK1 := Lib.hid k1
    clear k1 k2 k3 k4
    go_upto_region 19 with (go_at_call 59; refine hg.mono ?_; intro e w13 hh; obtain ⟨hh1, b13⟩ := hh; subst hh1; have B13 := Lib.hid b13; clear b13 hg)
    have hbA := below_alloc w13 (.cells #[.int .i64 0, .int .i64 0, .int .i64 0] 43)
    have b14 := B13.out.trans (hbA.mono B13.out.size)
    change Code.wp _ _ _ _ (w13.alloc (.cells #[.int .i64 0, .int .i64 0, .int .i64 0] 43))
    have H14 := Lib.hid (H12.out.keep b14); have WH14 := Lib.hid (WayH.below WH12.out b14); have WF14 := Lib.hid (wfrom_below WF12.out b14); have X14 := Lib.hid (X12.out.below b14)
    clear hbA b14 B13
    generalize w13.alloc (.cells #[.int .i64 0, .int .i64 0, .int .i64 0] 43) = w14 at *
    clear H12 WH12 WF12 X12 Z12 F12 H11 WH11 A11
    have hov := rmover_is X14.out true (by rw [HPH.out]; rfl)
    have hgot := WH14.out.got (by rw [← HWY.out]; exact HWL8.out)
    rw [← HWY.out, HK1.out] at hgot
    have d0 : decide ((0 : Int) < ((([] : List (Int × Int)).length : Nat) : Int)) = false := rfl
    go_upto_region 26 with (first
      | (go_at_call 60; refine hov.mono ?_; intro e w' hh; obtain ⟨hh1, hh2⟩ := hh; subst hh1; obtain rfl := hh2.symm; clear hov)
      | (go_at_call 61; (with_reducible refine hgot.mono ?_); intro e w15 hh; obtain ⟨v, hh1, hsp, b15⟩ := hh; subst hh1; obtain ⟨va, hva, hvm⟩ := hsp.sl; subst hva; have H15 := Lib.hid (H14.out.keep b15); have WF15 := Lib.hid (wfrom_below WF14.out b15); clear hsp hvm b15 hgot))
    clear H14 WF14 X14 WH14
    have c0 := H15.out.c0
    have hwd := words_own H15.out.own (by have := HB3.out; omega)
    go_upto_region 27 with (go_at_call 58; refine hwd.mono ?_; rintro e w16 ⟨gb, ws2, rfl, hws, b16⟩; have H16 := Lib.hid (H15.out.keep b16); have WF16 := Lib.hid (wfrom_below WF15.out b16); have W16 := Lib.hid hws; clear hws b16 hwd c0)
    have hwe : ws2 = ws := ris_eq W16.out.ris WX.out.ris W16.out.nz WX.out.nz fun a => by rw [W16.out.look, WX.out.look, HV3.out, P9.out.1]
    subst hwe
    clear H15 WF15
    have c2 := H16.out.hd5.2.2.1
    obtain ⟨l, hl⟩ : ∃ l, l = nadd (V1.plus p).nts ⟨kk, (V1.plus p).hd, 3, 0, 0, 0, 0, 0⟩ := ⟨_, rfl⟩
    have hl1 : l = [⟨kk, (V1.plus p).hd, 3, 0, 0, 0, 0, 0⟩] := by
      rw [hl, show (V1.plus p).nts = [] from HV1.out.2.1]; rfl
    have hal := lall_any (l := l) (by rw [hl]; exact H16.out.nt) (by rw [hl1]; exact Nat.le_of_ble_eq_true rfl)
    have HL1 := Lib.hid hl1
    clear hl hl1
    go_upto_region 28 with (go_at_call 64; (with_reducible refine hal.mono ?_); intro e w17 hh; obtain ⟨v, hh1, hnr, b17⟩ := hh; subst hh1; have H17 := Lib.hid (H16.out.keep b17); have WF17 := Lib.hid (wfrom_below WF16.out b17); have WG17 := Lib.hid (wfrom_below W16.out.row b17); have NR := Lib.hid hnr; clear hnr b17 hal c2)
    clear H16 WF16 W16
    have hnr := NR.out
    rw [HL1.out] at hnr
    obtain ⟨gn, hv, hcn⟩ := hnr.at 0 (Nat.succ_pos _)
    subst hv
    have n2 : w17.cell? ⟨gn, 2, none⟩ = some (.int .u8 3) := hcn 2 (by decide)
    have hwl : ws2.length ≤ 1000000 := WX.out.most
    clear hcn hnr
    go_upto_region 30 with (fail)
    clear n2
    go_wp2_with fail
    go_loopw [24] (fun i wr => ∃ k2 : Nat, k2 ≤ ws2.length ∧ i = .int .i64 k2 ∧ Below w17.heap.size w17 wr) (fun i _ => ws2.length - (intOf i).toNat)
    case atStart => exact ⟨0, by omega, rfl, Below.refl _ _⟩
    case round =>
      obtain ⟨k2, hk2, rfl, hB2⟩ := hrel
      by_cases hlt2 : k2 < ws2.length
      · have hlt2' : (k2 : Int) < ws2.length := by omega
        obtain ⟨ga1, rfl, z0, z1⟩ := wfrom_at18 (wfrom_below WF17.out hB2) k2 hlt2
        obtain ⟨gb1, rfl, z2, z3⟩ := wfrom_at18 (wfrom_below WG17.out hB2) k2 hlt2
        generalize (ws2[k2]).1 = va1 at *
        generalize (ws2[k2]).2 = vb1 at *
        have x0 := fun st : ExtW wr => st.cell z0
        have x1 := fun st : ExtW wr => st.cell z1
        have x2 := fun st : ExtW wr => st.cell z2
        have x3 := fun st : ExtW wr => st.cell z3
        have HB2 := Lib.hid hB2; have HLT2 := Lib.hid hlt2
        clear z0 z1 z2 z3 hB2 hlt2 hk2
        go_upto_region 33 with (fail)
        refine wp_region_ext (by kernel_rfl) (by kernel_rfl) ?_
        repeat (go_big_quiet_step (fail))
        refine wpQuiet_nil ?_
        rintro W ⟨⟨W2, hW⟩, rfl⟩
        clear x0 x1 x2 x3
        have HB3w := Lib.hid (HB2.out.trans (hW.mono HB2.out.size))
        clear hW
        go_wp2_with fail
        go_roundw
        case rel => exact ⟨k2 + 1, HLT2.out, by go_num, HB3w.out⟩
        case measure => have := HLT2.out; simp [intOf]; omega
      · obtain rfl : k2 = ws2.length := by omega
        have HB2 := Lib.hid (HBB.out.trans ((H17.out.below.trans (hB2.mono H17.out.below.size)).mono HBB.out.size))
        clear hB2 hlt2 hk2
        go_wp2_with (go_at_call 44; refine (lives18 _).mono ?_; rintro e w18 ⟨rfl, b18⟩)
        go_ret
        exact ⟨rfl, HB2.out.trans (b18.mono HB2.out.size)⟩
  · -- a way
    have hg := rmgot X12.out
    rw [k2, if_pos rfl, k8] at hg
    have H12 := Lib.hid k4
    have WH12 := Lib.hid (WH11.out.stepK k4 (fun q hq => hq) F12.out room_y)
    obtain ⟨su, hsu⟩ : ∃ su, su = xr.su := ⟨_, rfl⟩
    obtain ⟨sk, hsk⟩ : ∃ sk, sk = xr.sk := ⟨_, rfl⟩
    rw [← hsu, ← hsk] at hg k10 k11
    rw [← hsu] at k9
    have HK1 := Lib.hid (List.length_pos_iff.2 k1); have HT3 := Lib.hid k5; have HC3 := Lib.hid k6; have HE3 := Lib.hid k7; have HU3 := Lib.hid k9; have HS3 := Lib.hid k10; have HF3 := Lib.hid k11
    clear k1 k2 k4 k5 k6 k7 k8 k9 k10 k11 hsu hsk
    go_upto_region 19 with (go_at_call 59; refine hg.mono ?_; intro e w13 hh; obtain ⟨hh1, b13⟩ := hh; subst hh1; have B13 := Lib.hid b13; clear b13 hg)
    have hbA := below_alloc w13 (.cells #[.int .i64 b, .int .i64 su, .int .i64 sk] 43)
    have hzA := heap_alloc_new w13 (.cells #[.int .i64 b, .int .i64 su, .int .i64 sk] 43)
    have b14 := B13.out.trans (hbA.mono B13.out.size)
    change Code.wp _ _ _ _ (w13.alloc (.cells #[.int .i64 b, .int .i64 su, .int .i64 sk] 43))
    have H14 := Lib.hid (H12.out.keep b14); have WH14 := Lib.hid (WayH.below WH12.out b14); have X14 := Lib.hid (X12.out.below b14); have Z14 := Lib.hid ((b14.block _ (Array.getElem?_eq_some_iff.1 Z12.out).1).trans Z12.out); have PS14 := Lib.hid hzA
    clear hbA hzA b14 B13
    generalize w13.alloc (.cells #[.int .i64 b, .int .i64 su, .int .i64 sk] 43) = w14 at *
    generalize w13.heap.size = ps at *
    clear H12 WH12 WF12 X12 Z12 F12 H11 WH11 A11
    have hov := rmover_is X14.out true (by rw [HPH.out]; rfl)
    have hgot := WH14.out.got (by rw [← HWY.out]; exact HWL8.out)
    rw [← HWY.out] at hgot
    have d0 : decide ((0 : Int) < (Wy.length : Int)) = true := decide_eq_true (by have := HK1.out; omega)
    have d0n : decide (0 < Wy.length) = true := decide_eq_true HK1.out
    have hwlm := HWL8.out
    have hst2 := fun (w15 : World) (h : WS w0 w15 B (V1.plus p) s3) => stand18_any h (V := V1.plus p) HT3.out HIL.out HKS.out
    have hR2 : (stRow s3.val b (4 * (tsize b).toNat) 64).toArray = R1 := by
      rw [HR1.out]
      exact congrArg List.toArray (stRow_same (c := cntI s.val b) (fun r hr => (HC3.out r hr).trans (by rw [P9.out.1])) (fun r hr => rfl))
    rw [hR2] at hst2
    have HST2 := Lib.hid hst2
    clear hR2 hst2
    go_upto_region 22 with (first
      | (go_at_call 60; refine hov.mono ?_; intro e w' hh; obtain ⟨hh1, hh2⟩ := hh; subst hh1; obtain rfl := hh2.symm; clear hov)
      | (go_at_call 61; (with_reducible refine hgot.mono ?_); intro e w15 hh; obtain ⟨v, hh1, hsp, b15⟩ := hh; subst hh1; obtain ⟨va, hva, hvm⟩ := hsp.sl; subst hva; have H15 := Lib.hid (H14.out.keep b15); have Z15 := Lib.hid ((b15.block _ (Array.getElem?_eq_some_iff.1 Z14.out).1).trans Z14.out); have PS15 := Lib.hid ((b15.block _ (Array.getElem?_eq_some_iff.1 PS14.out).1).trans PS14.out); clear hsp hvm b15 hgot))
    clear H14 WH14 X14 Z14 PS14 d0 d0n
    have hst3 := HST2.out w15 H15.out
    go_upto_region 23 with (first
      | (go_at_call 52; (with_reducible refine hst3.mono ?_); intro e w16 hh; obtain ⟨hh1, b16⟩ := hh; subst hh1; have B16 := Lib.hid b16; have hzr := Lib.hid (heap_alloc_new w16 (.cells (Array.replicate 64 (.int .i64 0)) 131)); clear b16 hst3)
      | (refine wpList_store_row rfl 131 _ _ rfl w16.heap.size R1 rfl rfl 131 (Array.replicate 64 (.int .i64 0)) hzr.out hsz.out hold.out hone.out ?_))
    have hbA := below_alloc w16 (.cells (Array.replicate 64 (.int .i64 0)) 131)
    have hB17 : Below w15.heap.size w15 ((w16.alloc (.cells (Array.replicate 64 (.int .i64 0)) 131)).setRow w16.heap.size R1) := below_setRow (B16.out.trans (hbA.mono B16.out.size)) B16.out.size R1
    have hz17 : ((w16.alloc (.cells (Array.replicate 64 (.int .i64 0)) 131)).setRow w16.heap.size R1).heap[w16.heap.size]? = some (.cells R1 131 (0, 0)) := setRow_heap _ _ _ _ _ _ hzr.out
    change Code.wp _ _ _ _ ((w16.alloc (.cells (Array.replicate 64 (.int .i64 0)) 131)).setRow w16.heap.size R1)
    clear hbA hzr B16
    generalize (w16.alloc (.cells (Array.replicate 64 (.int .i64 0)) 131)).setRow w16.heap.size R1 = w17 at *
    generalize w16.heap.size = q17 at *
    have H17 := Lib.hid (H15.out.keep hB17); have Z17 := Lib.hid ((hB17.block _ (Array.getElem?_eq_some_iff.1 Z15.out).1).trans Z15.out); have PS17 := Lib.hid ((hB17.block _ (Array.getElem?_eq_some_iff.1 PS15.out).1).trans PS15.out); have Y17 := Lib.hid hz17
    clear hB17 hz17 H15 Z15 PS15
    have s0 := hcell PS17.out 0; have s1 := hcell PS17.out 1; have s2 := hcell PS17.out 2
    simp only [List.getElem?_toArray, List.getElem?_cons_zero, List.getElem?_cons_succ] at s0 s1 s2
    have hsl := slot_any H17.out b su sk (by have h1 := HS3.out.k0; have h2 := HS3.out.k1; simp [Lit.wf, IntKind.min, IntKind.max, IntKind.bits, IntKind.signed]; omega)
    rw [show tagOf (s3.val (tagsA b su)) sk = 0 from congrArg Prod.fst HF3.out, show s3.val (itemA b su sk) = 0 from congrArg Prod.snd HF3.out] at hsl
    go_upto_region 24 with (go_at_call 62; refine hsl.mono ?_; intro e w18 hh; obtain ⟨hh1, b18⟩ := hh; subst hh1; have H18 := Lib.hid (H17.out.keep b18); have Z18 := Lib.hid ((b18.block _ (Array.getElem?_eq_some_iff.1 Z17.out).1).trans Z17.out); have PS18 := Lib.hid ((b18.block _ (Array.getElem?_eq_some_iff.1 PS17.out).1).trans PS17.out); have Y18 := Lib.hid ((b18.block _ (Array.getElem?_eq_some_iff.1 Y17.out).1).trans Y17.out); clear b18 hsl s0 s1 s2)
    clear H17 Z17 PS17 Y17
    have s0 := hcell PS18.out 0; have s1 := hcell PS18.out 1; have s2 := hcell PS18.out 2
    simp only [List.getElem?_toArray, List.getElem?_cons_zero, List.getElem?_cons_succ] at s0 s1 s2
    have hod := odds18_any H18.out HE3.out
    have c2 := H18.out.hd5.2.2.1
    have hnc := lcount_any H18.out.nt
    rw [show ((V1.plus p).nts.length : Int) = 0 by show (V1.nts.length : Int) = 0; rw [HV1.out.2.1]; rfl] at hnc
    have heql := HEQL.out; have heqi := HEQI.out
    have hq1 : (su == u1) = true ∨ (su == u1) = false ∧ (su == u2) = true := by
      by_cases c : su = u1
      · exact .inl (beq_iff_eq.2 c)
      · exact .inr ⟨beq_eq_false_iff_ne.2 c, beq_iff_eq.2 (HU3.out.resolve_left c)⟩
    rcases hq1 with hq1 | ⟨hq1, hq2⟩
    all_goals
      go_wp2_with (first
        | (refine load_row_h rfl 131 _ rfl q4 rfl 131 R1 (0, 0) _ Z18.out Tryz.underlying131 rfl hsz.out ?_)
        | (refine load_row_h rfl 131 _ rfl q17 rfl 131 R1 (0, 0) _ Y18.out Tryz.underlying131 rfl hsz.out ?_)
        | (go_at_call 63; refine hod.mono ?_; intro e w' hh; obtain ⟨hh1, hh2⟩ := hh; subst hh1; obtain rfl := hh2.symm; clear hod)
        | (go_at_call 35; refine hnc.mono ?_; intro e w' hh; obtain ⟨hh1, hh2⟩ := hh; subst hh1; obtain rfl := hh2.symm; clear hnc c2)
        | (go_at_call 44; refine (lives18 _).mono ?_; rintro e w19 ⟨rfl, b19⟩))
      go_ret
      have h1 := HBB.out.trans (H18.out.below.mono HBB.out.size)
      exact ⟨rfl, h1.trans (b19.mono h1.size)⟩
set_option maxRecDepth 10000 in
theorem walkRoomsMake {H1 : Type} (w : World) (enc : TypeId × Value → H1) (base : Nat) (v : Value) (d : DataW H1) (p : List MemPlace) (k : DataW.Trod enc Tryz.prog w 0 (fun _ => true) true 130 v d p) (o : Value.okWide Tryz.prog w .any base 130 v) :
    Calls Tryz.prog 8 #[v] w fun e w' => e = .returned (.bool true) ∧ Below w.heap.size w w' := by
  obtain ⟨f, rfl, hr⟩ := ful_open k o
  exact rmake_any f w hr
end Go.Proofs.YtdbgfidnccpmdaaGreat
