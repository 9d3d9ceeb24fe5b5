/-
  Texts of this prover, merged: HopsSafe.
-/
import Derived.Test.YtcgnkgbiaafdcaaGreatPD
/-
  HopsSafe: at each step of the hops both versions are odd, or the stand is the same. (written by genhsafe.py)
-/
namespace Go.Proofs.YtcgnkgbiaafdcaaGreat
open Go.RowKit Go.Maps TagPure
set_option linter.unusedVariables false

/-- What a whole run of the hops is, step by step. -/
theorem way_on {b : Int} {its : List Itm} {c : Int → Nat} {Wy : List (Int × Int)} {v : Int → Int} (h : Wy ≠ [] → HWay b its c Wy (Wy.length - 1) v) (hits : its.length ≤ 999) {s : CS} (hs : s.val = v) :
    ∃ n, n ≤ 12 * Wy.length ∧ (Wy ≠ [] → n < 12 * Wy.length) ∧ (hpits (s, hpnew (way3 b Wy)) n).2.left = 0 ∧ ∀ k, k < n → hpgo (hpits (s, hpnew (way3 b Wy)) k).2 = true ∧ ∃ (j : Nat) (p q : Int × Int), (hpits (s, hpnew (way3 b Wy)) k).2.left = j + 1 ∧ Wy[j]? = some p ∧ Wy[j + 1]? = some q ∧ 64 ≤ ver b p.1 ∧ ver b p.1 < 128 ∧ 64 ≤ ver b q.1 ∧ ver b q.1 < 128 ∧
      (((hpits (s, hpnew (way3 b Wy)) (k + 1)).1.val (ver b p.1) % 2 = 1 ∧ (hpits (s, hpnew (way3 b Wy)) (k + 1)).1.val (ver b q.1) % 2 = 1) ∨ (Tbl b its (hpits (s, hpnew (way3 b Wy)) (k + 1)).1.val ∧ ∀ r, r ≠ 0 → cntI (hpits (s, hpnew (way3 b Wy)) (k + 1)).1.val b r = c r)) := by
  by_cases hne : Wy = []
  · subst hne
    exact ⟨0, Nat.zero_le _, fun h => absurd rfl h, rfl, fun k hk => absurd hk (Nat.not_lt_zero k)⟩
  · have hw := h hne
    have hx : hpnew (way3 b Wy) = ⟨wayH b Wy, Wy.length - 1, 0, false, []⟩ := by unfold hpnew; simp [way3, wayH]
    have hpos : 0 < Wy.length := List.length_pos_iff.2 hne
    have hsm := (hopSum_bd hw.inn (Wy.length - 1) (by omega)).2
    have hwi := WI.start hw hs 0
    rw [← hx] at hwi
    have hrun := fun k hk => (WI.run _ hwi hits k hk).2
    generalize hpnew (way3 b Wy) = x0 at *
    refine ⟨hopSum b Wy (Wy.length - 1), by omega, fun _ => by omega, ?_, fun k hk => ?_⟩
    · have r2 := hrun _ (Nat.le_refl _)
      rw [Nat.sub_self] at r2
      exact (r2.over hits).2 rfl
    · have r := hrun k (Nat.le_of_lt hk)
      obtain ⟨g1, -, -, -, -⟩ := r.step hits (by omega)
      obtain ⟨j, p, q, e1, e2, e3, e4⟩ := r.safe hits (by omega)
      have v1 := (hw.inn p (List.mem_of_getElem? e2)).ver
      have v2 := (hw.inn q (List.mem_of_getElem? e3)).ver
      exact ⟨g1, j, p, q, e1, e2, e3, v1.1, v1.2, v2.1, v2.2, e4⟩
theorem meas_step {n k : Nat} (h : k < n) : n - ((k : Int) + 1).toNat < n - ((k : Int)).toNat := by omega
/-- Where the spots of a way lie. -/
def WySp (w : World) (hi : Nat) (ao : Option Addr) (b : Int) (Wy : List (Int × Int)) : Prop :=
  ∀ (j : Nat) (p : Int × Int), Wy[j]? = some p → ∃ (g : Nat) (cur : Array Value), ao = some ⟨g, 0, none⟩ ∧ g < hi ∧ w.heap[g]? = some (.cells cur 43 (0, 0)) ∧ cur[j * 3]? = some (.int .i64 b) ∧ cur[j * 3 + 1]? = some (.int .i64 p.1)
theorem spn_wayat {w : World} {base : Nat} {ao : Option Addr} {n : Nat} {b : Int} {Wy : List (Int × Int)} (h : SpN w base (.slice ao n n) b Wy) : WySp w w.heap.size ao b Wy := by
  intro j p hp
  obtain ⟨hj, rfl⟩ := List.getElem?_eq_some_iff.1 hp
  obtain ⟨g, hv, hb, hl, c0, c1, -, -⟩ := h.at j hj
  rcases h with ⟨h, -⟩ | ⟨g', cur, hv', h1, h2, h3, h4⟩
  · rw [h] at hv; simp at hv
  · simp only [Value.slice.injEq] at hv hv'
    have e : some (⟨g, 0, none⟩ : Addr) = some ⟨g', 0, none⟩ := hv.1.symm.trans hv'.1
    simp only [Option.some.injEq, Addr.mk.injEq, and_true] at e
    subst e
    exact ⟨g, cur, hv.1, hl, h2, (hcell h2 (j * 3)).symm.trans c0, (hcell h2 (j * 3 + 1)).symm.trans c1⟩
theorem WySp.below {w w' : World} {hi : Nat} {ao : Option Addr} {b : Int} {Wy : List (Int × Int)} (h : WySp w hi ao b Wy) (k : Below w.heap.size w w') : WySp w' hi ao b Wy := fun j p hp => by
  obtain ⟨g, cur, h1, h2, h3, h4, h5⟩ := h j p hp
  exact ⟨g, cur, h1, h2, (k.block _ (Array.getElem?_eq_some_iff.1 h3).1).trans h3, h4, h5⟩
theorem WySp.fs {w w' : World} {hi hb : Nat} {ao : Option Addr} {b : Int} {Wy : List (Int × Int)} (h : WySp w hi ao b Wy) (k : FS [hb] w w') (hh : hi ≤ hb) : WySp w' hi ao b Wy := fun j p hp => by
  obtain ⟨g, cur, h1, h2, h3, h4, h5⟩ := h j p hp
  exact ⟨g, cur, h1, h2, k.cells _ _ _ _ h3 rfl (by simp; omega), h4, h5⟩
set_option maxRecDepth 100000 in
set_option maxHeartbeats 8000000 in
theorem hsafe_any (f : Ful) (w : World) (hr : FulRd w f) : Calls Tryz.prog 11 #[.agg f.cells] w fun e w' => e = .returned (.bool true) ∧ Below w.heap.size w w' := by
  have hB := below_alloc w (.cells f.cells 130)
  have z := heap_alloc_new w (.cells f.cells 130)
  have HR := Lib.hid (hr.below hB); have HB := Lib.hid hB; have HZ := Lib.hid z
  clear hr hB z
  go_enter Tryz.func11, Tryz.ntmps11
  go_upto_region 1 with (fail)
  change Code.wp _ _ _ _ (w.alloc (.cells f.cells 130))
  obtain ⟨w1, hw1⟩ : ∃ w1, w1 = w.alloc (.cells f.cells 130) := ⟨_, rfl⟩
  rw [← hw1] at HR HB HZ ⊢
  clear hw1
  obtain ⟨pq, hpq⟩ : ∃ pq, pq = w.heap.size := ⟨_, rfl⟩
  rw [← hpq] at HZ ⊢
  have HPQ := Lib.hid hpq
  clear hpq
  obtain ⟨e0, e1, e2, e3, e4, e5⟩ := ful_cells HZ.out
  have hgr := ful_great f w1 HR.out
  unfold FulGr at hgr
  go_upto_if 13 with (go_at_call 53; refine hgr.mono ?_; intro e w2 hh; obtain ⟨g, hh1, b2, hg⟩ := hh; subst hh1; have B2 := Lib.hid b2; have HG := Lib.hid hg; clear b2 hg hgr e0 e1 e2 e3 e4 e5; cases g)
  rotate_left
  · go_wp2_with (go_at_call 70; refine (lives17 _).mono ?_; rintro e w3 ⟨rfl, b3⟩)
    go_ret
    have h1 := HB.out.trans (B2.out.mono HB.out.size)
    exact ⟨rfl, h1.trans (b3.mono h1.size)⟩
  obtain ⟨hkl, hll, hsl⟩ := HG.out trivial
  have hr2 := HR.out.below B2.out
  have HR2 := Lib.hid hr2
  have HB2 := Lib.hid (HB.out.trans (B2.out.mono HB.out.size))
  have hz2 := (B2.out.block _ (Array.getElem?_eq_some_iff.1 HZ.out).1).trans HZ.out
  have HZ2 := Lib.hid hz2
  obtain ⟨e0, e1, e2, e3, e4, e5⟩ := ful_cells hz2
  have hfw := ful_world f w2 hr2 hkl hll
  unfold FWPost at hfw
  have HKL := Lib.hid hkl; have HSL := Lib.hid hsl
  clear hr2 hz2 hkl hll hsl HG B2 HB HR HZ
  obtain ⟨b, hb⟩ : ∃ b, b = fbits f := ⟨_, rfl⟩
  have hbi := fbits_in f
  rw [← hb] at hfw hbi
  have HBI := Lib.hid hbi
  clear hb hbi
  go_upto_region 6 with (go_at_call 54; refine hfw.mono ?_; intro e w3 hh; obtain ⟨w0, B, s, had, hbw, hh1, hf⟩ := hh; subst hh1; have HF := Lib.hid hf; have HBW := Lib.hid hbw; clear hfw hf hbw e0 e1 e2 e3 e4 e5)
  have hits : (fitms f).length ≤ 40 := by unfold fitms; rw [List.length_map]; exact HKL.out
  have hkeys : ∀ x ∈ fitms f, x.key.size ≤ maxLen := fun x hx => by
    obtain ⟨k, hk, rfl⟩ := List.mem_map.1 hx
    exact HR2.out.keys.sz k hk
  obtain ⟨V, hV⟩ : ∃ V : WV, V = { v0 ⟨b, 8, 3, 1, 16⟩ with its := fitms f, fm := [] } := ⟨_, rfl⟩
  have hws := HF.out.ws
  rw [← hV] at hws
  have hVi : V.its = fitms f := by rw [hV]
  have HVI := Lib.hid hVi
  have HWS := Lib.hid hws; have HITS := Lib.hid hits; have HKEYS := Lib.hid hkeys
  have HLO := Lib.hid (show w2.heap.size ≤ w0.heap.size from HBW.out.size)
  have HBB := Lib.hid (HB2.out.trans (HBW.out.mono HB2.out.size))
  have HRF := Lib.hid (fun (W : World) (hW : Below w0.heap.size w0 W) => (HR2.out.below HBW.out).below hW)
  have HZF := Lib.hid (fun (W : World) (hW : Below w0.heap.size w0 W) => show W.heap[pq]? = some (.cells f.cells 130 (0, 0)) from by
    have h1 := (HBW.out.block _ (Array.getElem?_eq_some_iff.1 HZ2.out).1).trans HZ2.out
    exact (hW.block _ (Array.getElem?_eq_some_iff.1 h1).1).trans h1)
  clear hws hV hVi hits hkeys HR2 HB2 HZ2 HBW
  have hts : Tbl b V.its s.val := by rw [HVI.out]; exact HF.out.tb.tbl
  have hil : V.its.length ≤ 40 := by rw [HVI.out]; exact HITS.out
  have hks : ∀ x ∈ V.its, x.key.size ≤ maxLen := by rw [HVI.out]; exact HKEYS.out
  have hst := stand17_any HWS.out hts hil hks
  obtain ⟨R1, hR1⟩ : ∃ R1, R1 = (stRow s.val b (4 * (tsize b).toNat) 41).toArray := ⟨_, rfl⟩
  rw [← hR1] at hst
  have hr41 : R1.size = 41 := by rw [hR1, List.size_toArray, stRow_len]
  have hsz : Hid ((Tryz.prog.info? 157).map (·.size) = some R1.size) := by show _ = some R1.size; rw [hr41]; kernel_rfl
  have hold : Hid ((Array.replicate 41 (Value.int .i64 0)).size = R1.size) := by show _ = _; rw [hr41]; rfl
  have hone : Hid (R1.all (·.oneCell') = true) := by show _ = _; rw [hR1]; exact stRow_one _ _ _ _
  have hneq : ∀ W, (binOp .neq 157 (.agg R1) (.agg R1)).run Tryz.prog W = .ok (.bool false) W := fun W => by rw [hR1]; exact st_neq _ _ _ W
  have heqi : ∀ W, (Op.equalIn 10000 157 (.agg R1) (.agg R1)).run Tryz.prog W = .ok true W := fun W => by rw [hR1]; exact st_eq _ _ _ W
  have HTS := Lib.hid hts; have HIL := Lib.hid hil; have HKS := Lib.hid hks; have HR1 := Lib.hid hR1; have HNEQ := Lib.hid hneq; have HEQI := Lib.hid heqi
  clear hts hil hks hR1 hr41 hneq heqi
  go_upto_region 7 with (first
    | (go_at_call 71; (with_reducible refine hst.mono ?_); intro e w4 hh; obtain ⟨hh1, b4⟩ := hh; subst hh1; have B4 := Lib.hid b4; have hzr := Lib.hid (heap_alloc_new w4 (.cells (Array.replicate 41 (.int .i64 0)) 157)); clear b4 hst)
    | (refine wpList_store_row rfl 157 _ _ rfl w4.heap.size R1 rfl rfl 157 (Array.replicate 41 (.int .i64 0)) hzr.out hsz.out hold.out hone.out ?_))
  have hbA := below_alloc w4 (.cells (Array.replicate 41 (.int .i64 0)) 157)
  have hB5 : Below w3.heap.size w3 ((w4.alloc (.cells (Array.replicate 41 (.int .i64 0)) 157)).setRow w4.heap.size R1) := below_setRow (B4.out.trans (hbA.mono B4.out.size)) B4.out.size R1
  have hz5 : ((w4.alloc (.cells (Array.replicate 41 (.int .i64 0)) 157)).setRow w4.heap.size R1).heap[w4.heap.size]? = some (.cells R1 157 (0, 0)) := setRow_heap _ _ _ _ _ _ hzr.out
  change Code.wp _ _ _ _ ((w4.alloc (.cells (Array.replicate 41 (.int .i64 0)) 157)).setRow w4.heap.size R1)
  clear hbA hzr B4
  generalize (w4.alloc (.cells (Array.replicate 41 (.int .i64 0)) 157)).setRow w4.heap.size R1 = w5 at *
  generalize w4.heap.size = q4 at *
  have HWS5 := Lib.hid (HWS.out.keep hB5)
  have h05 : Below w0.heap.size w0 w5 := HWS5.out.below
  obtain ⟨e0, e1, e2, e3, e4, e5⟩ := ful_cells (HZF.out w5 h05)
  have hway := fway_any f HWS5.out (HRF.out w5 h05) HBI.out HF.out.tb.tbl.word 241 (by have := HF.out.bd; omega) (by unfold lim; decide)
  unfold FWayPost at hway
  have HZ5 := Lib.hid hz5
  clear hB5 hz5 h05
  go_upto_region 8 with (go_at_call 72; refine hway.mono ?_; intro e w6 hh; obtain ⟨v, p, s2, hh1, h6, v6, n6, c6, hsp, f6⟩ := hh; subst hh1; have H6 := Lib.hid h6; have P6 := Lib.hid (And.intro v6 (And.intro n6 c6)); have HSP := Lib.hid hsp; have Z6 := Lib.hid (f6.cells _ _ _ _ HZ5.out rfl); have L56 := Lib.hid f6.size; clear h6 v6 n6 c6 hsp f6 hway e0 e1 e2 e3 e4 e5)
  obtain ⟨Wy, hWy⟩ : ∃ Wy, Wy = (fway s.val b (2 + f.most) (u1of f b) (u2of f b) 600).2.2.1 := ⟨_, rfl⟩
  rw [← hWy] at HSP
  obtain ⟨va, hva, hvm⟩ := HSP.out.sl
  subst hva
  have HWY := Lib.hid hWy
  clear hWy hvm HZ5
  have hw0 : Wy ≠ [] → HWay b V.its (cntI s.val b) Wy (Wy.length - 1) s.val := fun hne => by
    obtain ⟨hu1, hu2⟩ := uof_in f HBI.out
    have hld := fway_leads (v := s.val) (most := 2 + f.most) HBI.out hu1 hu2 (n := 600) (by omega)
    rw [← HWY.out] at hld
    exact leads_hway HTS.out HF.out.tb.bd HF.out.tb.ev hu1 hu2 hld hne
  have hl8 : Wy.length ≤ 8 := by
    by_cases hne : Wy = []
    · rw [hne]; exact Nat.zero_le _
    · exact way_len (hw0 hne)
  obtain ⟨n, hn1, hn2, hn3, hn4⟩ := way_on hw0 (by have := HIL.out; omega) (s := s2) P6.out.1
  have hwf : ∀ p ∈ (hpnew (way3 b Wy)).way, (Lit.int .i64 p.2.2).wf = true := fun p hp => by
    obtain ⟨x, hx, rfl⟩ := List.mem_map.1 hp
    have hne : Wy ≠ [] := fun e => by rw [e] at hx; cases hx
    have h1 := ((hw0 hne).inn x hx).k0; have h2 := ((hw0 hne).inn x hx).k1
    simp [Lit.wf, IntKind.min, IntKind.max, IntKind.bits, IntKind.signed]; omega
  have hwa := spn_wayat HSP.out
  have hnh := newhops4 (spn_row HSP.out) (by rw [show (way3 b Wy).length = Wy.length from List.length_map _]; omega)
  have hcb : s2.n ≤ 249 ∧ s2.cnt ≤ 249 := by have h1 := HF.out.bd; have h2 := P6.out; omega
  have HWA := Lib.hid hwa; have HN1 := Lib.hid hn1; have HN2 := Lib.hid hn2; have HN3 := Lib.hid hn3; have HN4 := Lib.hid hn4; have HWF := Lib.hid hwf; have HCB := Lib.hid hcb
  have HL8 := Lib.hid (show (Wy.length : Int) ≤ 8 by omega)
  clear hw0 hl8 hn1 hn2 hn3 hn4 hwf hwa hcb
  obtain ⟨x0, hx0⟩ : ∃ x0, x0 = hpnew (way3 b Wy) := ⟨_, rfl⟩
  rw [← hx0] at HN3 HN4 HWF hnh
  clear hx0
  have hpl := HL8.out
  go_upto_region 9 with (go_at_call 73; refine hnh.mono ?_; intro e w7 hh; obtain ⟨hb, hh1, hp, b7⟩ := hh; subst hh1; have H7 : Hid (HMB w0 w7 w7 B (V.plus p) s2 [hb] hb x0 []) := Lib.hid ⟨H6.out.keep b7, hp.lower H6.out.below.size, FS.refl _ _, .inl (List.mem_singleton.2 rfl), by simp⟩; have Z7 := Lib.hid ((b7.block _ (Array.getElem?_eq_some_iff.1 Z6.out).1).trans Z6.out); have W7 := Lib.hid (HWA.out.below b7); have LOW := Lib.hid hp.low; have NE7 := Lib.hid (show q4 ∉ [hb] by have h1 := (Array.getElem?_eq_some_iff.1 Z6.out).1; have h3 := hp.low; simp; omega); clear hp b7 hnh)
  have HS7 := Lib.hid H7.out.ws.below.size
  clear HWA Z6 H6 HSP
  go_wp2_with fail
  go_loopw [8] (fun i wr => ∃ k : Nat, k ≤ n ∧ i = .int .i64 k ∧ ∃ qs, HMB w0 w7 wr B (V.plus p) (hpits (s2, x0) k).1 [hb] hb (hpits (s2, x0) k).2 qs) (fun i _ => n - (intOf i).toNat)
  case atStart => exact ⟨0, Nat.zero_le _, rfl, [], H7.out⟩
  case round =>
    obtain ⟨k, hk, rfl, qs, hbk⟩ := hrel
    have hov := hpover hbk.hp
    have hk12 : (k : Int) ≤ 12 * Wy.length := by have := HN1.out; omega
    by_cases hlt : k < n
    · have hlt' : (k : Int) < 12 * Wy.length := by have := HN1.out; omega
      obtain ⟨hgo, j, p1, p2, hj, hp1, hp2, va1, va2, vb1, vb2, hcs⟩ := HN4.out k hlt
      obtain ⟨hl0, hh⟩ := hpgo_is hgo
      have hle := hpits_le (s2, x0) k
      have hst := hpstep hbk (CS.room_of (249 + k) (by have := HCB.out; dsimp only at hle; omega) (by have := HN1.out; have := HL8.out; unfold lim; omega)) HS7.out hl0 (by rw [hpits_way]; exact HWF.out) hh
      have hlf := hpleft hbk.hp
      rw [hj] at hlf
      rw [show (((hpits (s2, x0) k).2.left : Int) == 0) = false from beq_eq_false_iff_ne.2 (by omega)] at hov
      have hjl : j + 1 < Wy.length := (List.getElem?_eq_some_iff.1 hp2).1
      obtain ⟨d, hd⟩ : ∃ d, d = (((((hpits (s2, x0) k).2.next (hpits (s2, x0) k).1).2.left : Int)) == 0) := ⟨_, rfl⟩
      rw [← hd] at hst
      have hj1 : decide (((j + 1 : Nat) : Int) < 1) = false := decide_eq_false (by omega)
      have hj2 : decide ((Wy.length : Int) ≤ ((j + 1 : Nat) : Int)) = false := decide_eq_false (by omega)
      have HLT := Lib.hid hlt; have HP1 := Lib.hid hp1; have HP2 := Lib.hid hp2; have HCS := Lib.hid hcs; have HV := Lib.hid (And.intro va1 (And.intro va2 (And.intro vb1 vb2))); have HJL := Lib.hid hjl
      clear hbk hgo hl0 hh hle hd hlt hk hp1 hp2 hcs va1 va2 vb1 vb2 hj hk12
      go_upto_region 16 with (first
        | (go_at_call 75; refine hov.mono ?_; intro e w2 hh; obtain ⟨hh1, hh2⟩ := hh; subst hh1; obtain rfl := hh2.symm; clear hov)
        | (go_at_call 74; refine hlf.mono ?_; intro e w2 hh; obtain ⟨hh1, hh2⟩ := hh; subst hh1; obtain rfl := hh2.symm; clear hlf)
        | (go_at_call 77; refine hst.mono ?_; intro e wk hh; obtain ⟨qs3, hh1, hk3⟩ := hh; subst hh1; have H3 := Lib.hid hk3; clear hk3 hst))
      obtain ⟨g, cur, hao, hgl, hgc, hc0, hc1⟩ := (W7.out.fs H3.out.fs LOW.out) j p1 HP1.out
      obtain ⟨g', cur', hao', -, hgc', hd0, hd1⟩ := (W7.out.fs H3.out.fs LOW.out) (j + 1) p2 HP2.out
      subst hao
      simp only [Option.some.injEq, Addr.mk.injEq, and_true] at hao'
      subst hao'
      have ecur : cur = cur' := by
        have := hgc.symm.trans hgc'
        simp only [Option.some.injEq, Obj.cells.injEq, and_true] at this
        exact this
      subst ecur
      have hcs : (((hpits (s2, x0) (k + 1)).1.val (ver b p1.1) % 2 == 1) = true ∧ ((hpits (s2, x0) (k + 1)).1.val (ver b p2.1) % 2 == 1) = true) ∨ (Tbl b V.its (hpits (s2, x0) (k + 1)).1.val ∧ ∀ r, r ≠ 0 → cntI (hpits (s2, x0) (k + 1)).1.val b r = cntI s.val b r) := by
        rcases HCS.out with ⟨h1, h2⟩ | h
        · exact .inl ⟨by rw [h1]; rfl, by rw [h2]; rfl⟩
        · exact .inr h
      have y0 := fun st : ExtW wk => st.cell (show wk.cell? ⟨g, j * 3, none⟩ = some (.int .i64 b) from (hcell hgc (j * 3)).trans hc0)
      have y1 := fun st : ExtW wk => st.cell (show wk.cell? ⟨g, j * 3 + 1, none⟩ = some (.int .i64 p1.1) from (hcell hgc (j * 3 + 1)).trans hc1)
      have y2 := fun st : ExtW wk => st.cell (show wk.cell? ⟨g, (j + 1) * 3, none⟩ = some (.int .i64 b) from (hcell hgc' ((j + 1) * 3)).trans hd0)
      have y3 := fun st : ExtW wk => st.cell (show wk.cell? ⟨g, (j + 1) * 3 + 1, none⟩ = some (.int .i64 p2.1) from (hcell hgc' ((j + 1) * 3 + 1)).trans hd1)
      have y4 := fun st : ExtW wk => st.cell H3.out.ws.c0
      have hpk1 := fun st => H3.out.ws.peekx (ver b p1.1) (ver_wf b p1.1) st
      have hpk2 := fun st => H3.out.ws.peekx (ver b p2.1) (ver_wf b p2.1) st
      have hod1 : ∀ st : ExtW wk, Calls Tryz.prog 76 #[.int .u64 ((hpits (s2, x0) (k + 1)).1.val (ver b p1.1))] st.val fun e w' => e = .returned (.bool ((hpits (s2, x0) (k + 1)).1.val (ver b p1.1) % 2 == 1)) ∧ st.val = w' := fun st => (odd17 _ (H3.out.ws.own.wf _) st.val).mono fun e w' ⟨he, hw⟩ => ⟨he, hw.symm⟩
      have hod2 : ∀ st : ExtW wk, Calls Tryz.prog 76 #[.int .u64 ((hpits (s2, x0) (k + 1)).1.val (ver b p2.1))] st.val fun e w' => e = .returned (.bool ((hpits (s2, x0) (k + 1)).1.val (ver b p2.1) % 2 == 1)) ∧ st.val = w' := fun st => (odd17 _ (H3.out.ws.own.wf _) st.val).mono fun e w' ⟨he, hw⟩ => ⟨he, hw.symm⟩
      have hv1 := fun W : World => ver_any b p1.1 W
      have hv2 := fun W : World => ver_any b p2.1 W
      have hX : (hpits (s2, x0) k).2.next (hpits (s2, x0) k).1 = hpits (s2, x0) (k + 1) := rfl
      rw [hX] at H3 hpk1 hpk2
      have HK1 := Lib.hid (show wrap64 ((k : Int) + 1) = (k : Int) + 1 from IntWalk.wrap64_in _ (by have := HN1.out; have := HL8.out; have := HLT.out; omega))
      have hjj : (j : Int) + 1 < Wy.length := by have := HJL.out; omega
      have hj8 : (j : Int) + 1 < 8 := by have := HL8.out; omega
      clear hX hc0 hc1 hd0 hd1 hgc hgc' hgl HP1 HP2 HV HCS hj1 hj2 hlt'
      generalize hQ : hpits (s2, x0) (k + 1) = Q at *
      have HQ := Lib.hid hQ
      clear hQ
      generalize p1.1 = u1 at *
      generalize p2.1 = u2 at *
      obtain ⟨z1, hz1⟩ : ∃ z1, z1 = Q.1.val (ver b u1) := ⟨_, rfl⟩
      obtain ⟨z2, hz2⟩ : ∃ z2, z2 = Q.1.val (ver b u2) := ⟨_, rfl⟩
      rw [← hz1] at hpk1 hod1 hcs
      rw [← hz2] at hpk2 hod2 hcs
      obtain ⟨o1, ho1⟩ : ∃ o1, o1 = (z1 % 2 == 1) := ⟨_, rfl⟩
      obtain ⟨o2, ho2⟩ : ∃ o2, o2 = (z2 % 2 == 1) := ⟨_, rfl⟩
      rw [← ho1] at hod1 hcs
      rw [← ho2] at hod2 hcs
      have HCS := Lib.hid hcs
      clear hcs ho1 ho2 hz1 hz2
      generalize ver b u1 = r1 at *
      generalize ver b u2 = r2 at *
      cases o1 <;> cases o2
      all_goals
        refine wp_region_ext (by kernel_rfl) (by kernel_rfl) ?_
        repeat (go_big_quiet_step (first
          | (go_at_call 78; with_reducible refine calls_ext (hv1 _))
          | (go_at_call 78; with_reducible refine calls_ext (hv2 _))
          | (go_at_call 36; with_reducible refine calls_ext_same (hpk1 _))
          | (go_at_call 36; with_reducible refine calls_ext_same (hpk2 _))
          | (go_at_call 76; with_reducible refine calls_ext_same (hod1 _))
          | (go_at_call 76; with_reducible refine calls_ext_same (hod2 _))))
        refine wpQuiet_nil ?_
        rintro W2 ⟨⟨_, hW⟩, rfl⟩
        have H4 := Lib.hid (H3.out.below hW)
        clear hpk1 hpk2 hod1 hod2 hv1 hv2 y0 y1 y2 y3 y4 H3 hW hjj hj8
      rotate_left 3
      · clear HCS
        have hk96 : (k : Int) < 96 := by have := HLT.out; have := HN1.out; have := HL8.out; omega
        go_wp2_with fail
        go_roundw
        case rel => exact ⟨k + 1, HLT.out, by first | rfl | go_num, qs3, by rw [HQ.out]; exact H4.out⟩
        case measure => exact meas_step HLT.out
      all_goals
        have hT : Tbl b V.its Q.1.val ∧ ∀ r, r ≠ 0 → cntI Q.1.val b r = cntI s.val b r := HCS.out.resolve_left (by simp)
        have hR2 : (stRow Q.1.val b (4 * (tsize b).toNat) 41).toArray = R1 := by
          rw [HR1.out]
          exact congrArg List.toArray (stRow_same hT.2 (fun r hr => rfl))
        have hst2 := stand17_any H4.out.ws (V := V.plus p) hT.1 HIL.out HKS.out
        rw [hR2] at hst2
        have Z8 := Lib.hid (H4.out.fs.cells _ _ _ _ Z7.out rfl NE7.out)
        clear hR2 hT HCS
        go_upto_region 18 with (first
          | (go_at_call 71; (with_reducible refine hst2.mono ?_); intro e w9 hh; obtain ⟨hh1, b9⟩ := hh; subst hh1; have B9 := Lib.hid b9; have hzr := Lib.hid (heap_alloc_new w9 (.cells (Array.replicate 41 (.int .i64 0)) 157)); clear b9 hst2)
          | (refine wpList_store_row rfl 157 _ _ rfl w9.heap.size R1 rfl rfl 157 (Array.replicate 41 (.int .i64 0)) hzr.out hsz.out hold.out hone.out ?_))
        have hbA := below_alloc w9 (.cells (Array.replicate 41 (.int .i64 0)) 157)
        have hB10 : Below W2.heap.size W2 ((w9.alloc (.cells (Array.replicate 41 (.int .i64 0)) 157)).setRow w9.heap.size R1) := below_setRow (B9.out.trans (hbA.mono B9.out.size)) B9.out.size R1
        have hz10 : ((w9.alloc (.cells (Array.replicate 41 (.int .i64 0)) 157)).setRow w9.heap.size R1).heap[w9.heap.size]? = some (.cells R1 157 (0, 0)) := setRow_heap _ _ _ _ _ _ hzr.out
        change Code.wp _ _ _ _ ((w9.alloc (.cells (Array.replicate 41 (.int .i64 0)) 157)).setRow w9.heap.size R1)
        clear hbA hzr B9
        generalize (w9.alloc (.cells (Array.replicate 41 (.int .i64 0)) 157)).setRow w9.heap.size R1 = w10 at *
        generalize w9.heap.size = q10 at *
        have H10 := Lib.hid (H4.out.below hB10)
        have Z10 := Lib.hid ((hB10.block _ (Array.getElem?_eq_some_iff.1 Z8.out).1).trans Z8.out)
        have Y10 := Lib.hid hz10
        clear hB10 hz10 H4 Z8
        have hneq := HNEQ.out; have heqi := HEQI.out; have hk96 : (k : Int) < 96 := by have := HLT.out; have := HN1.out; have := HL8.out; omega
        go_wp2_with (first
          | (refine load_row_g rfl 157 _ rfl q4 rfl 157 R1 (0, 0) _ Z10.out Tryz.underlying157 rfl hsz.out ?_)
          | (refine load_row_g rfl 157 _ rfl q10 rfl 157 R1 (0, 0) _ Y10.out Tryz.underlying157 rfl hsz.out ?_))
        go_roundw
        case rel => exact ⟨k + 1, HLT.out, by first | rfl | go_num, qs3, by rw [HQ.out]; exact H10.out⟩
        case measure => exact meas_step HLT.out
    · obtain rfl : k = n := by omega
      rw [HN3.out] at hov
      have hov2 := hov
      have hdn : decide ((k : Int) < 12 * (Wy.length : Int)) = true ∨ Wy = [] := by
        by_cases hne : Wy = []
        · exact .inr hne
        · exact .inl (decide_eq_true (by have := HN2.out hne; omega))
      obtain ⟨dd, hdd⟩ : ∃ dd, decide ((k : Int) < 12 * (Wy.length : Int)) = dd := ⟨_, rfl⟩
      have HBK := Lib.hid hbk
      clear hbk hdn hk hlt
      cases dd
      all_goals
        go_wp2_with (first
          | (go_at_call 75; refine hov.mono ?_; intro e w2 hh; obtain ⟨hh1, hh2⟩ := hh; subst hh1; obtain rfl := hh2.symm)
          | (go_at_call 70; refine (lives17 _).mono ?_; rintro e w13 ⟨rfl, b13⟩))
        go_ret
        have h1 := HBB.out.trans (HBK.out.ws.below.mono HBB.out.size)
        exact ⟨rfl, h1.trans (b13.mono h1.size)⟩
set_option maxRecDepth 10000 in
theorem walkHopsSafe {H1 : Type} (w : World) (enc : TypeId × Value → H1) (base : Nat) (v : Value) (d : DataW H1) (p : List MemPlace) (k : DataW.Trod enc Tryz.prog w 0 (fun _ => true) true 130 v d p) (o : Value.okWide Tryz.prog w .any base 130 v) :
    Calls Tryz.prog 11 #[v] w fun e w' => e = .returned (.bool true) ∧ Below w.heap.size w w' := by
  obtain ⟨f, rfl, hr⟩ := ful_open k o
  exact hsafe_any f w hr
end Go.Proofs.YtcgnkgbiaafdcaaGreat
