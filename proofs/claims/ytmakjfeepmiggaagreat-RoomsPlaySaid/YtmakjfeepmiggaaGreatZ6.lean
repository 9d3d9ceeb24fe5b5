import Derived.Test.YtmakjfeepmiggaaGreatZ5
import Derived.Deep.Cut
import Derived.IntWalk
import Derived.Deep.RegionHeld3
namespace Go.Proofs.YtmakjfeepmiggaaGreat
open Go.RowKit
set_option linter.unusedVariables false
theorem rat_any (base b : Nat) (l : List Itm) (S : Nat → Prop) (r : Int) (w : World) (h : RArena w base b l S) (hl : l.length ≤ 1048576) :
    Calls Tryz.prog 76 #[.pointer (some ⟨b, 0, none⟩), .int .i64 r] w fun e w' => e = .returned (.tuple #[.agg #[.string ((atOf l r).1).key, .string ((atOf l r).1).val, .int .u32 ((atOf l r).1).flags, .int .u64 ((atOf l r).1).id, .int .i64 ((atOf l r).1).dies, .int .i64 ((atOf l r).1).gen], .bool (atOf l r).2]) ∧ Below w.heap.size w w' := by
  unfold atOf
  by_cases h1 : 1 ≤ r ∧ r ≤ l.length
  · rw [if_pos h1]
    have hx : l[(r - 1).toNat]? = some (l.getD (r.toNat - 1) Itm.zero) := by
      rw [show (r - 1).toNat = r.toNat - 1 by omega, List.getD_eq_getElem?_getD, List.getElem?_eq_getElem (by omega)]; rfl
    exact rat_in base b l S r _ w h hl h1.1 hx
  · rw [if_neg h1]
    exact rat_out base b l S r w h h1
abbrev zCs : Array Value := #[.string ⟨#[]⟩, .string ⟨#[]⟩, .int .u32 0, .int .u64 0, .int .i64 0, .int .i64 0]
theorem six_below {w w1 : World} (hb : Below (w.heap.size + 1) (w.alloc (.cells zCs 80)) w1) : Box w1 w.heap.size ⟨⟨#[]⟩, ⟨#[]⟩, 0, 0, 0, 0⟩ :=
  (hb.block w.heap.size (by omega)).trans (heap_alloc_new w _)
set_option maxRecDepth 10000 in
set_option maxHeartbeats 1000000 in
theorem rwitem {w0 w : World} {B : WB} {V : WV} {x : RS} (h : RD w0 w B V x) (hl : V.its.length ≤ 1048576) (r : Int) : Calls Tryz.prog 129 #[.pointer (some ⟨B.wb, 0, none⟩), .int .i64 r] w fun e w' => e = .returned (.agg #[.string ((atOf V.its r).1).key, .string ((atOf V.its r).1).val, .int .u32 ((atOf V.its r).1).flags, .int .u64 ((atOf V.its r).1).id, .int .i64 ((atOf V.its r).1).dies, .int .i64 ((atOf V.its r).1).gen]) ∧ Below w.heap.size w w' := by
  obtain ⟨w2, hw2⟩ : ∃ w2, w2 = w.alloc (.cells zCs 80) := ⟨_, rfl⟩
  have hB0 : Below w.heap.size w w2 := by rw [hw2]; exact below_alloc' _ _
  have h1 := h.keep hB0
  obtain ⟨S, hA⟩ := h1.ar
  have hat := rat_any _ _ _ _ r _ hA hl
  have c1 : w2.cell? ⟨B.wb, 1, none⟩ = some (.pointer (some ⟨B.ib, 0, none⟩)) := (h1.cell 1).trans (val_at B V h1.tkl).2.1
  generalize (atOf V.its r).1 = y at *
  generalize (atOf V.its r).2 = bo at *
  have hs2 : w2.heap.size = w.heap.size + 1 := by rw [hw2]; simp
  have hbx : ∀ w1, Below w2.heap.size w2 w1 → Box w1 w.heap.size ⟨⟨#[]⟩, ⟨#[]⟩, 0, 0, 0, 0⟩ := fun w1 hb => six_below (by rw [← hw2, ← hs2]; exact hb)
  have c1' : w.cell? ⟨B.wb, 1, none⟩ = some (.pointer (some ⟨B.ib, 0, none⟩)) := (h.cell 1).trans (val_at B V h.tkl).2.1
  have hwb : B.wb < w.heap.size := (Array.getElem?_eq_some_iff.1 h.blk).1
  rw [hw2] at hat hbx hs2 hB0
  have HA := Lib.hid hat; have HB0 := Lib.hid hB0; have HBX := Lib.hid hbx; have HS2 := Lib.hid hs2
  clear h h1 hA hat hB0 hbx hs2 c1 hw2
  go_enter Tryz.func129, Tryz.ntmps129
  go_upto_region 2 with (go_at_call 76; refine HA.out.mono ?_; rintro e w1 ⟨rfl, hb⟩; have hz := HBX.out _ hb; have HB := Lib.hid hb; clear hb c1')
  have hsz : w.heap.size < w1.heap.size := hz.lt
  have h6 : Below w1.heap.size w1 (w1.alloc (.cells y.cells.toArray 80)) := below_alloc' _ _
  have hb6 : Box (w1.alloc (.cells y.cells.toArray 80)) w1.heap.size y := Box.new w1 y
  have hz6 := hz.below h6
  have hB6 : Below w.heap.size w (w1.alloc (.cells y.cells.toArray 80)) := (HB0.out.trans (HB.out.mono HB0.out.size)).trans (h6.mono (Nat.le_of_lt hsz))
  clear hz h6
  change Code.wp _ _ _ _ (w1.alloc (.cells y.cells.toArray 80))
  generalize w1.alloc (.cells y.cells.toArray 80) = W6 at *
  obtain ⟨b0, b1, b2, b3, b4, b5⟩ := hb6.cells
  obtain ⟨z0, z1, z2, z3, z4, z5⟩ := hz6.cells
  have zf := hz6.frozen
  have HZ := Lib.hid (hz6.store y)
  have HB6 := Lib.hid hB6
  clear hz6 hb6 hB6
  go_wp2
  have hk : Below w.heap.size w (store6 W6 w.heap.size 0 y) := keeps_below (store6_keeps W6 w.heap.size 0 y) HB6.out HB6.out.size fun k e => by omega
  change bodyPost _ _ _ _ _ (store6 W6 w.heap.size 0 y)
  obtain ⟨r0, r1, r2, r3, r4, r5⟩ := HZ.out.cells
  refine bodyPost_ret (v := .agg #[.string (y).key, .string (y).val, .int .u32 (y).flags, .int .u64 (y).id, .int .i64 (y).dies, .int .i64 (y).gen]) (by simp [results, Tryz.results129, go_sem, r0, r1, r2, r3, r4, r5]) rfl ⟨rfl, hk⟩
theorem field_key (y : Itm) (W : World) : (Instr.field 80 (.agg #[.string (y).key, .string (y).val, .int .u32 (y).flags, .int .u64 (y).id, .int .i64 (y).dies, .int .i64 (y).gen]) 0).run Tryz.prog W = .ok (.string y.key) W := by kernel_rfl
theorem wf_bd {v : Int} (h : (Lit.int .u64 v).wf = true) : 0 ≤ v ∧ v < 18446744073709551616 := by
  have hmin : IntKind.u64.min = 0 := rfl
  have hmax : IntKind.u64.max = 18446744073709551615 := rfl
  simp only [Lit.wf, Bool.and_eq_true, decide_eq_true_eq] at h; omega
theorem bd_wf {v : Int} (h : 0 ≤ v ∧ v < 18446744073709551616) : (Lit.int .u64 v).wf = true := by
  have hmin : IntKind.u64.min = 0 := rfl
  have hmax : IntKind.u64.max = 18446744073709551615 := rfl
  simp only [Lit.wf, Bool.and_eq_true, decide_eq_true_eq]; omega
theorem i64_small (v : Int) (h : 0 ≤ v ∧ v < 1000000) : (Lit.int .i64 v).wf = true := by
  have hmin : IntKind.i64.min = -9223372036854775808 := rfl
  have hmax : IntKind.i64.max = 9223372036854775807 := rfl
  simp only [Lit.wf, Bool.and_eq_true, decide_eq_true_eq]; omega
theorem rlook_wf' {w0 w : World} {B : WB} {V : WV} {x : RS} (h : RD w0 w B V x) (a : Int) : (Lit.int .u64 (rlook x.l a)).wf = true := by obtain ⟨lv, hr⟩ := h.ref; exact rlook_wf hr a
theorem withOf_wf (x s t : Int) (h0 : 0 ≤ x) (h1 : x < 18446744073709551616) : (Lit.int .u64 (TagPure.withOf x s t)).wf = true := by
  unfold TagPure.withOf
  split
  · rename_i h
    exact bd_wf (put_u64 x t s.toNat h0 h1 (by omega) h.2.1 h.2.2)
  · exact bd_wf ⟨h0, h1⟩
def PutPost (w0 w : World) (B R : WB) (V : WV) (m : Nat) (e : Ending) (w' : World) : Prop := e = .returned (.tuple #[]) ∧ ∃ s' x', Pr w0 w' B R V s' x' ∧ Far s' x' (m + 2) ∧ Fr wrTy true w w'
theorem atOf_key (l : List Itm) (r : Int) (h : ∀ y ∈ l, y.key.size ≤ 1000) : (atOf l r).1.key.size ≤ 1000 := by
  unfold atOf
  split
  · rename_i h1
    have : r.toNat - 1 < l.length := by omega
    simp only [List.getD_eq_getElem?_getD, List.getElem?_eq_getElem this, Option.getD_some]
    exact h _ (List.getElem_mem _)
  · exact Nat.zero_le _
set_option maxRecDepth 10000 in
set_option maxHeartbeats 4000000 in
theorem pput_any {w0 w : World} {B R : WB} {V : WV} {s : CS} {x : RS} (h : Pr w0 w B R V s x) (m : Nat) (hf : Far s x m) (hm : m ≤ 80000) (hits : ∀ y ∈ V.its, y.key.size ≤ 1000) (hl : V.its.length ≤ 1048576) (many : Nat) (hmany : 1 ≤ many ∧ many ≤ 100) (i p sl : Int)
    (hi : 0 ≤ i ∧ i < 256) (hp : 0 ≤ p ∧ p < 256) (hsl : 0 ≤ sl ∧ sl < 256) :
    Calls Tryz.prog 48 #[.agg #[.pointer (some ⟨B.wb, 0, none⟩), .pointer (some ⟨R.wb, 0, none⟩)], .agg #[.int .u8 i, .int .u8 p, .int .u8 sl], .int .i64 many] w (PutPost w0 w B R V m) := by
  obtain ⟨w1, hw1⟩ : ∃ w1, w1 = (w.alloc (.cells #[.pointer (some ⟨B.wb, 0, none⟩), .pointer (some ⟨R.wb, 0, none⟩)] 34)).alloc (.cells #[.int .u8 i, .int .u8 p, .int .u8 sl] 131) := ⟨_, rfl⟩
  have hB1 : Below w.heap.size w w1 := by rw [hw1]; exact ((Below.refl _ _).alloc (Nat.le_refl _) _).alloc (by simp) _
  have hq1 : w1.heap[w.heap.size]? = some (.cells #[.pointer (some ⟨B.wb, 0, none⟩), .pointer (some ⟨R.wb, 0, none⟩)] 34 (0, 0)) := by rw [hw1]; exact heap_alloc_old (heap_alloc_new w _)
  have hq2 : w1.heap[w.heap.size + 1]? = some (.cells #[.int .u8 i, .int .u8 p, .int .u8 sl] 131 (0, 0)) := by rw [hw1]; exact heap_alloc_at _ _ (by simp)
  have h1 := h.keep hB1
  obtain ⟨ref, hrf⟩ : ∃ ref, ref = 1 + i % (many : Int) := ⟨_, rfl⟩
  have hmod : 0 ≤ i % (many : Int) ∧ i % (many : Int) < many := ⟨Int.emod_nonneg _ (by omega), Int.emod_lt_of_pos _ (by omega)⟩
  have hrb : 1 ≤ ref ∧ ref ≤ 100 := by omega
  have hke := atOf_key V.its ref hits
  have hit := rwitem h1.rd hl ref
  generalize (atOf V.its ref).1 = y at *
  have hv2 := congrFun h.al.val 2
  have hwf2 := h1.ws.own.wf 2
  have hx2 : 0 ≤ rlook x.l 2 ∧ rlook x.l 2 < 18446744073709551616 := by
    rw [hv2] at hwf2
    have hmin : IntKind.u64.min = 0 := rfl
    have hmax : IntKind.u64.max = 18446744073709551615 := rfl
    simp only [Lit.wf, Bool.and_eq_true, decide_eq_true_eq] at hwf2; omega
  have a0 := hcell hq1 1
  have a1 := hcell hq2 0
  have hfk := field_key y
  have H := Lib.hid h1; have HQ1 := Lib.hid hq1; have HQ2 := Lib.hid hq2; have HB1 := Lib.hid hB1; have HF := Lib.hid hf; have HIT := Lib.hid hit; have HX2 := Lib.hid hx2
  clear h h1 hf hq1 hq2 hB1 hits hl hit hv2 hwf2 hx2
  go_enter Tryz.func48, Tryz.ntmps48
  go_upto_region 1 with (fail)
  rw [← hw1]
  clear hw1
  go_upto_region 2 with (fail)
  rw [← hrf]
  clear hrf hmod
  go_upto_region 4 with (first
    | (go_at_call 129; refine HIT.out.mono ?_; rintro e w2 ⟨rfl, b2⟩; have B2 := Lib.hid b2; have a2 := hcell ((b2.block _ (Array.getElem?_eq_some_iff.1 HQ1.out).1).trans HQ1.out) 1; clear a0 a1 b2)
    | (go_at_call 87; refine (rhash_any _ (by omega) _).mono ?_; rintro e w3 ⟨⟨hh, rfl, hb⟩, hw⟩; obtain rfl := hw.symm)
    | (go_at_call 130; refine (rwpeek (H.out.rd.keep B2.out) 2).mono ?_; rintro e w3 ⟨rfl, hw⟩; obtain rfl := hw.symm)
    | (go_at_call 86; refine (rplaces_any hh _ hb.1 hb.2 HX2.out.1 HX2.out.2 _).mono ?_; rintro e w4 ⟨pv, l, rfl, hpl, hl1, hl4, b4⟩; clear a2))
  obtain ⟨pa, pcap, rfl, hlm, hrd⟩ := hpl.read
  obtain ⟨g, rfl, hgb, hrow⟩ := hrd (by omega)
  obtain ⟨k, hk⟩ : ∃ k : Nat, k = (p % (l.length : Int)).toNat := ⟨_, rfl⟩
  have hpm := Int.emod_nonneg p (b := (l.length : Int)) (by omega)
  have hpm2 := Int.emod_lt_of_pos p (b := (l.length : Int)) (by omega)
  have hkl : k < l.length := by omega
  have hke1 : p % (l.length : Int) = k := by omega
  have hke2 : p.tmod (l.length : Int) = k := by rw [Int.tmod_eq_emod_of_nonneg hp.1]; exact hke1
  obtain ⟨q0, q1⟩ := hrow k hkl
  have hgw := World.block_lt_of_cell? _ _ q0
  generalize l[k] = pl at *
  obtain ⟨pb, pu⟩ := pl
  simp only at q0 q1
  have hb24 : Below w1.heap.size w1 w4 := B2.out.trans (b4.mono B2.out.size)
  have hq14 := (hb24.block _ (Array.getElem?_eq_some_iff.1 HQ1.out).1).trans HQ1.out
  have hq24 := (hb24.block _ (Array.getElem?_eq_some_iff.1 HQ2.out).1).trans HQ2.out
  have c0 := hcell hq24 1
  have c1 := hcell hq24 2
  have hn1 : w.heap.size + 1 < w4.heap.size := (Array.getElem?_eq_some_iff.1 hq24).1
  have hslm : 0 ≤ sl % 4 ∧ sl % 4 < 4 := by omega
  have hslt : sl.tmod 4 = sl % 4 := Int.tmod_eq_emod_of_nonneg hsl.1
  have hkk : (k : Int) < l.length := by omega
  have hk00 : (0 : Int) ≤ (k : Int) := by omega
  have hkw : IntKind.i64.wrap (k : Int) = k := IntWalk.i64_in _ (by omega)
  have hkp : IntKind.i64.wrap p = p := IntWalk.i64_in _ (by omega)
  have hkt : (k : Int).toNat = k := by omega
  have hks : IntKind.i64.wrap (sl % 4) = sl % 4 := IntWalk.i64_in _ (by omega)
  have hkt2 : IntKind.i64.wrap (p.tmod (l.length : Int)) = k := by rw [hke2]; exact hkw
  have hlz : ((l.length : Int) == 0) = false := beq_eq_false_iff_ne.2 (by omega)
  have hlz2 : l.length ≠ 0 := by omega
  have hlz3 : ¬ ((l.length : Int) = 0) := by omega
  have H4 := Lib.hid (H.out.keep hb24); have HQ14 := Lib.hid hq14; have HB4 : Hid (Below w.heap.size w w4) := HB1.out.trans (hb24.mono HB1.out.size)
  have hh0 : w4.drew.cell? ⟨w.heap.size + 1, 1, none⟩ = some (.int .u8 p) ∧ w4.drew.cell? ⟨w.heap.size + 1, 2, none⟩ = some (.int .u8 sl) ∧ w4.drew.cell? ⟨g, k * 2, none⟩ = some (.int .i64 pb) ∧ w4.drew.cell? ⟨g, k * 2 + 1, none⟩ = some (.int .i64 pu) := ⟨c0, c1, q0, q1⟩
  have hfb : ∀ W, Below w4.heap.size w4 W → W.cell? ⟨w.heap.size + 1, 1, none⟩ = some (.int .u8 p) ∧ W.cell? ⟨w.heap.size + 1, 2, none⟩ = some (.int .u8 sl) ∧ W.cell? ⟨g, k * 2, none⟩ = some (.int .i64 pb) ∧ W.cell? ⟨g, k * 2 + 1, none⟩ = some (.int .i64 pu) := fun W hb =>
    ⟨(hb.cell (World.block_lt_of_cell? _ _ c0)).trans c0, (hb.cell (World.block_lt_of_cell? _ _ c1)).trans c1, (hb.cell (World.block_lt_of_cell? _ _ q0)).trans q0, (hb.cell (World.block_lt_of_cell? _ _ q1)).trans q1⟩
  unfold maxLen at hlm
  clear hrd hrow hpl hb24 hq14 hq24 c0 c1 q0 q1 b4 hk hpm hpm2 H HQ1 HQ2 HB1 HIT HX2 hfk
  go_region_held3 (fun W => W.cell? ⟨w.heap.size + 1, 1, none⟩ = some (.int .u8 p) ∧ W.cell? ⟨w.heap.size + 1, 2, none⟩ = some (.int .u8 sl) ∧ W.cell? ⟨g, k * 2, none⟩ = some (.int .i64 pb) ∧ W.cell? ⟨g, k * 2 + 1, none⟩ = some (.int .i64 pu))
    (first | exact hh0 | exact hfb _ (by repeat (first | exact Below.refl _ _ | refine Below.drew ?_ | refine Below.setCell ?_ (by simp) _ | refine Below.alloc ?_ (by simp) _)) | go_keep) (fail)
  have hq5 : ((w4.alloc (.cells #[.int .i64 pb, .int .i64 pu, .int .i64 (sl % 4)] 71)).drew).heap[w4.heap.size]? = some (.cells #[.int .i64 pb, .int .i64 pu, .int .i64 (sl % 4)] 71 (0, 0)) := heap_alloc_new w4 _
  have hb5 : Below w4.heap.size w4 ((w4.alloc (.cells #[.int .i64 pb, .int .i64 pu, .int .i64 (sl % 4)] 71)).drew) := (below_alloc' w4 _).drew
  clear hh0 hfb hgw
  generalize (w4.alloc (.cells #[.int .i64 pb, .int .i64 pu, .int .i64 (sl % 4)] 71)).drew = W5 at *
  have H5 := Lib.hid (H4.out.keep hb5); have HQ15 := Lib.hid ((hb5.block _ (Array.getElem?_eq_some_iff.1 HQ14.out).1).trans HQ14.out); have HQ5 := Lib.hid hq5
  have HB5 : Hid (Below w.heap.size w W5) := HB4.out.trans (hb5.mono HB4.out.size)
  have c0 := hcell hq5 0
  have c1 := hcell hq5 1
  clear hq5 hb5 H4 HQ14 HB4 B2 hlz hlz2 hlz3 hkt2 hke2 hke1 hkw hkt hkk
  go_upto_region 6 with (go_at_call 56; refine (rtags_any pb pu _).mono ?_; rintro e w6 ⟨rfl, b6⟩; have B6 := Lib.hid b6; clear b6 c0 c1)
  have haw := tagsA_wf pb pu
  have h6 := H5.out.keep B6.out
  have hq16 := (B6.out.block _ (Array.getElem?_eq_some_iff.1 HQ15.out).1).trans HQ15.out
  have hq6 := (B6.out.block _ (Array.getElem?_eq_some_iff.1 HQ5.out).1).trans HQ5.out
  obtain ⟨a, hae⟩ : ∃ a, a = tagsA pb pu := ⟨_, rfl⟩
  rw [← hae] at haw
  simp only [← hae]
  have hva := wf_bd (rlook_wf' h6.rd a)
  have hpk : ∀ st : ExtW w6, Calls Tryz.prog 130 #[.pointer (some ⟨R.wb, 0, none⟩), .int .u64 a] st.val fun e w' => e = .returned (.int .u64 (rlook x.l a)) ∧ st.val = w' := fun st => (rwpeek (h6.rd.keep st.below) a).mono fun e w' ⟨he, hw⟩ => ⟨he, hw.symm⟩
  have htg : ∀ st : ExtW w6, Calls Tryz.prog 111 #[.int .u64 hh] st.val fun e w' => e = .returned (.int .i64 (tag01 hh)) ∧ st.val = w' := fun st => (rtag01_any hh hb.1 hb.2 st.val).mono fun e w' ⟨he, hw⟩ => ⟨he, hw.symm⟩
  have hwt := fun st : ExtW w6 => rwith_any (rlook x.l a) (sl % 4) (tag01 hh) st.val hva.1 hva.2
  have hnw := withOf_wf (rlook x.l a) (sl % 4) (tag01 hh) hva.1 hva.2
  generalize tag01 hh = tg at *
  generalize rlook x.l a = va at *
  generalize TagPure.withOf va (sl % 4) tg = nv at *
  have x0 := fun st : ExtW w6 => st.cell (hcell hq16 0)
  have x1 := fun st : ExtW w6 => st.cell (hcell hq16 1)
  have x2 := fun st : ExtW w6 => st.cell (hcell hq6 2)
  have hst : ∀ W, Below w6.heap.size w6 W → Calls Tryz.prog 13 #[.agg #[.pointer (some ⟨B.wb, 0, none⟩), .pointer (some ⟨R.wb, 0, none⟩)], .agg #[.int .u64 a, .int .u64 nv]] W fun e w' => e = .returned (.tuple #[]) ∧ Pr w0 w' B R V (s.acc 2 a nv) (x.acc 2 a nv) ∧ Fr wrTy true W w' := fun W hW => pstore_any (h6.keep hW) m HF.out (by omega) a nv haw hnw
  have HST := Lib.hid hst; have HQ16 := Lib.hid hq16; have HQ6 := Lib.hid hq6; have HAL := Lib.hid h6.al
  have HB6 : Hid (Below w.heap.size w w6) := HB5.out.trans (B6.out.mono HB5.out.size)
  clear h6 hq16 hq6 hst H5 HQ15 HQ5 HB5 B6 hva haw hnw hae
  refine wp_region_segs [12] (by kernel_rfl) (by kernel_rfl) (by kernel_rfl) ?_
  simp only [Segs, List.take_succ_cons, List.take_zero, List.drop_succ_cons, List.drop_zero]
  repeat (go_big_quiet_step (first
    | (go_at_call 130; with_reducible refine calls_ext_same (hpk _))
    | (go_at_call 111; with_reducible refine calls_ext_same (htg _))
    | (go_at_call 131; with_reducible refine calls_ext_same (hwt _))))
  refine wpQuiet_nil ?_
  rintro W7 ⟨⟨W8, hW8⟩, rfl⟩
  clear x0 x1 x2 hpk htg hwt
  refine seg_call rfl (by kernel_rfl) 13 #[.agg #[.pointer (some ⟨B.wb, 0, none⟩), .pointer (some ⟨R.wb, 0, none⟩)], .agg #[.int .u64 a, .int .u64 nv]] (by kernel_rfl) ?_
  refine (HST.out _ hW8).mono ?_
  rintro e w9 ⟨rfl, h9, f9⟩
  refine ⟨_, rfl, ?_⟩
  simp only [List.getElem_toArray, List.getElem_cons_succ, List.getElem_cons_zero]
  go_frame
  have hq19 := f9.cells _ _ _ _ ((hW8.block _ (Array.getElem?_eq_some_iff.1 HQ16.out).1).trans HQ16.out) rfl
  have hq9 := f9.cells _ _ _ _ ((hW8.block _ (Array.getElem?_eq_some_iff.1 HQ6.out).1).trans HQ6.out) rfl
  have F9 : Hid (Fr wrTy true w w9) := ((below_fr HB6.out _ _).trans (below_fr hW8 _ _)).trans f9
  have H9 := Lib.hid h9; have HQ19 := Lib.hid hq19; have HQ9 := Lib.hid hq9
  clear h9 f9 hW8 hq19 hq9 HQ16 HQ6 HB6 HST
  refine wpQuiet_nil ?_
  rintro W10 ⟨⟨W11, hW10⟩, rfl⟩
  have hq1 := (hW10.block _ (Array.getElem?_eq_some_iff.1 HQ19.out).1).trans HQ19.out
  have hq2 := (hW10.block _ (Array.getElem?_eq_some_iff.1 HQ9.out).1).trans HQ9.out
  have h10 := H9.out.keep hW10
  have F10 : Hid (Fr wrTy true w W10) := F9.out.trans (below_fr hW10 _ _)
  have hiw := itemA_wf pb pu (sl % 4)
  have hrw : IntKind.u64.wrap ref = ref := by rw [IntKind.wrap_u64]; omega
  have hrwf := u64_small ref (by omega)
  have hitm := fun st : ExtW W10 => ritem_any pb pu (sl % 4) (i64_small _ (by omega)) st.val
  generalize itemA pb pu (sl % 4) = ia at *
  have x0 := fun st : ExtW W10 => st.cell (hcell hq1 0)
  have x1 := fun st : ExtW W10 => st.cell (hcell hq1 1)
  have x2 := fun st : ExtW W10 => st.cell (hcell hq2 0)
  have x3 := fun st : ExtW W10 => st.cell (hcell hq2 1)
  have x4 := fun st : ExtW W10 => st.cell (hcell hq2 2)
  have hst : ∀ W, Below W10.heap.size W10 W → Calls Tryz.prog 13 #[.agg #[.pointer (some ⟨B.wb, 0, none⟩), .pointer (some ⟨R.wb, 0, none⟩)], .agg #[.int .u64 ia, .int .u64 ref]] W fun e w' => e = .returned (.tuple #[]) ∧ Pr w0 w' B R V ((s.acc 2 a nv).acc 2 ia ref) ((x.acc 2 a nv).acc 2 ia ref) ∧ Fr wrTy true W w' := fun W hW => pstore_any (h10.keep hW) (m + 1) (HF.out.acc HAL.out 2 a nv) (by omega) ia ref hiw hrwf
  have HST := Lib.hid hst; have HAL2 := Lib.hid h10.al
  clear h10 hq1 hq2 hst hiw hrwf hW10 H9 F9 HQ19 HQ9
  go_upto_region 7 with (fail)
  refine wp_region_segs [6] (by kernel_rfl) (by kernel_rfl) (by kernel_rfl) ?_
  simp only [Segs, List.take_succ_cons, List.take_zero, List.drop_succ_cons, List.drop_zero]
  repeat (go_big_quiet_step ((go_at_call 89; with_reducible refine calls_ext (hitm _))))
  refine wpQuiet_nil ?_
  rintro W12 ⟨⟨W13, hW12⟩, rfl⟩
  clear x0 x1 x2 x3 x4 hitm
  refine seg_call rfl (by kernel_rfl) 13 #[.agg #[.pointer (some ⟨B.wb, 0, none⟩), .pointer (some ⟨R.wb, 0, none⟩)], .agg #[.int .u64 ia, .int .u64 ref]] (by kernel_rfl) ?_
  refine (HST.out _ hW12).mono ?_
  rintro e w14 ⟨rfl, h14, f14⟩
  refine ⟨_, rfl, ?_⟩
  refine wpQuiet_nil ?_
  rintro W15 ⟨⟨W16, hW15⟩, rfl⟩
  have HFIN : Hid (∃ s' x', Pr w0 W15 B R V s' x' ∧ Far s' x' (m + 2) ∧ Fr wrTy true w W15) := ⟨_, _, h14.keep hW15, (HF.out.acc HAL.out 2 a nv).acc HAL2.out 2 ia ref, ((F10.out.trans (below_fr hW12 _ _)).trans f14).trans (below_fr hW15 _ _)⟩
  clear h14 f14 hW12 hW15 HST
  go_wp2
  go_end0
  exact ⟨rfl, HFIN.out⟩
end Go.Proofs.YtmakjfeepmiggaaGreat
namespace Go.Proofs.YtmakjfeepmiggaaGreat
open Go.RowKit
set_option linter.unusedVariables false
structure Tri (w : World) (a : Option Addr) (cap : Nat) (l : List (Int × Int × Int)) : Prop where
  le : l.length ≤ cap
  most : cap ≤ maxLen
  bd : ∀ p ∈ l, (0 ≤ p.1 ∧ p.1 < 256) ∧ (0 ≤ p.2.1 ∧ p.2.1 < 256) ∧ (0 ≤ p.2.2 ∧ p.2.2 < 256)
  cell : l = [] ∨ ∃ b off, a = some ⟨b, off, none⟩ ∧ ∀ i, (hi : i < l.length) → w.cell? ⟨b, off + i * 3, none⟩ = some (.int .u8 (l[i]).1) ∧ w.cell? ⟨b, off + i * 3 + 1, none⟩ = some (.int .u8 (l[i]).2.1) ∧ w.cell? ⟨b, off + i * 3 + 2, none⟩ = some (.int .u8 (l[i]).2.2)
theorem Tri.at {w : World} {a : Option Addr} {cap : Nat} {l : List (Int × Int × Int)} (h : Tri w a cap l) (i : Nat) (hi : i < l.length) : ∃ b off x y z, a = some ⟨b, off, none⟩ ∧ ((0 ≤ x ∧ x < 256) ∧ (0 ≤ y ∧ y < 256) ∧ (0 ≤ z ∧ z < 256)) ∧
    w.cell? ⟨b, off + i * 3, none⟩ = some (.int .u8 x) ∧ w.cell? ⟨b, off + i * 3 + 1, none⟩ = some (.int .u8 y) ∧ w.cell? ⟨b, off + i * 3 + 2, none⟩ = some (.int .u8 z) := by
  rcases h.cell with rfl | ⟨b, off, rfl, h5⟩
  · simp at hi
  · exact ⟨b, off, _, _, _, rfl, h.bd _ (List.getElem_mem hi), h5 i hi⟩
theorem Tri.below {w w' : World} {a : Option Addr} {cap : Nat} {l : List (Int × Int × Int)} (h : Tri w a cap l) (hb : Below w.heap.size w w') : Tri w' a cap l := by
  refine ⟨h.le, h.most, h.bd, h.cell.imp id fun ⟨b, off, e, h5⟩ => ⟨b, off, e, fun i hi => ?_⟩⟩
  obtain ⟨h6, h7, h8⟩ := h5 i hi
  exact ⟨(hb.cell (World.block_lt_of_cell? _ _ h6)).trans h6, (hb.cell (World.block_lt_of_cell? _ _ h7)).trans h7, (hb.cell (World.block_lt_of_cell? _ _ h8)).trans h8⟩
structure Fst where
  c : Conf
  gr : Bool
  ia : Option Addr
  ic : Nat
  its : List Itm
  pa : Option Addr
  pc : Nat
  puts : List (Int × Int × Int)
  sa : Option Addr
  sc : Nat
  sts : List (Int × Int)
  ticks : Int
def Fst.cells (f : Fst) : Array Value := #[.int .i64 f.c.bits, .int .i64 f.c.budget, .int .i64 f.c.tries, .int .i64 f.c.quantum, .int .i64 f.c.way, .bool f.gr, .slice f.ia f.its.length f.ic, .slice f.pa f.puts.length f.pc, .slice f.sa f.sts.length f.sc, .int .i64 f.ticks]
def Fst.conf (f : Fst) : Conf := if f.c.ok = true then f.c else conf10
structure FstIn (w : World) (f : Fst) : Prop where
  its : Itms w (.slice f.ia f.its.length f.ic) f.its
  puts : Tri w f.pa f.pc f.puts
  sts : RWds w f.sa f.sc f.sts
  ni : f.its.length ≤ 40
  np : f.puts.length ≤ 60
  ns : f.sts.length ≤ 60
  key : ∀ y ∈ f.its, y.key.size ≤ 1000
theorem FstIn.below {w w' : World} {f : Fst} (h : FstIn w f) (hb : Below w.heap.size w w') : FstIn w' f :=
  ⟨h.its.below hb (Nat.le_refl _), h.puts.below hb, h.sts.below hb, h.ni, h.np, h.ns, h.key⟩
def v0 (c : Conf) : WV := ⟨c, [], [], List.replicate 64 0, -1, []⟩
theorem tk_eq : tkV (List.replicate 64 0) = tk0 := by simp [tkV, tk0]
theorem rd_of {w w1 w2 : World} {rb cr rib rnb : Nat} {c : Conf} {x : RS} (h : RWld w1 w2 rb cr rib rnb c x) (hB : Below w.heap.size w w1) (hb : Below w1.heap.size w1 w2) : RD w w2 ⟨rb, cr, rib, rnb⟩ (v0 c) x := by
  obtain ⟨lv, hr⟩ := h.ref
  have hs := hB.size
  refine ⟨hB.trans (hb.mono hs), ⟨lv, hr.base hs⟩, ?_, Nat.le_trans hs h.lo, ⟨_, none, 0, ⟨h.items, World.ownsRow_nil _ _ _ _, Nat.le_trans hs h.ilo, by simp [Value.ownBlock]⟩, rfl⟩, NL.nil _ _ h.notes (Nat.le_trans hs h.nlo), by simp [v0]⟩
  have := h.blk
  unfold WB.val v0
  simp only [tk_eq]
  exact this
theorem ws_of {w w1 w2 : World} {wb cb ib nb : Nat} {c : Conf} {s : CS} (hB : Below w.heap.size w w1) (h1 : w2.heap[wb]? = some (.cells (worldV cb ib nb c tk0 (-1)).toArray 117 (0, 0))) (h2 : w1.heap.size ≤ wb) (h3 : Own w1 w2 cb s)
    (h4 : w2.heap[ib]? = some (.cells #[.slice none 0 0, .int .i64 0] 242 (0, 0))) (h5 : w1.heap.size ≤ ib) (h6 : w2.heap[nb]? = some (.cells #[.slice none 0 0] 286 (0, 0))) (h7 : w1.heap.size ≤ nb) : WS w w2 ⟨wb, cb, ib, nb⟩ (v0 c) s := by
  have hs := hB.size
  have ha : ArenaAt w2 w.heap.size ib none 0 [] [] := ⟨by simpa using h4, World.ownsRow_nil _ _ _ _, Nat.le_trans hs h5, by simp, by simp, by simp, by simp, by simp, by simp, by simp [Value.ownBlock], by simp⟩
  refine ⟨h3.base hB, ?_, Nat.le_trans hs h2, ⟨_, none, 0, [], ha, rfl⟩, NL.nil _ _ h6 (Nat.le_trans hs h7), by simp [v0], FM.nil _ _⟩
  unfold WB.val v0
  simp only [tk_eq]
  exact h1
theorem tword_bits {c : Conf} (hc : c.ok = true) : tword c.bits 0 = c.bits ∧ 1 ≤ c.bits ∧ c.bits ≤ 12 := by
  simp only [Conf.ok, Bool.and_eq_true, decide_eq_true_eq] at hc
  unfold tword; omega
theorem init_one (v : Int) (hv : v ≠ 0) : Alike (CS.init [(2, v)]) ⟨rfold [(2, v)], 0, 0, 0, 0, 0⟩ := by
  have e : rfold [(2, v)] = [(2, v)] := by
    show rput [] 2 v = _
    rw [rput_ins (l := []) List.Pairwise.nil]; simp [rins, hv]
  rw [e]
  refine ⟨?_, List.pairwise_singleton _ _, fun p hp => by simp only [List.mem_singleton] at hp; subst hp; exact hv, rfl, rfl, rfl, rfl, rfl⟩
  funext a
  show upd (fun _ => 0) 2 v a = _
  unfold upd
  by_cases h : a = 2
  · simp [h, rlook]
  · simp [h, rlook, Ne.symm h]
theorem init_far1 (v : Int) : Far (CS.init [(2, v)]) ⟨rfold [(2, v)], 0, 0, 0, 0, 0⟩ 1 := by
  have := rfold_len [(2, v)]
  exact ⟨by show (1 : Nat) ≤ 1; omega, by show (0 : Nat) ≤ 1; omega, by simpa using this⟩
structure BxF (f : Fst) (c : Conf) (q q4 : Nat) (vw vr : Value) (W : World) : Prop where
  hF : W.heap[q]? = some (.cells f.cells 28 (0, 0))
  h2 : W.heap[q + 1]? = some (.cells #[.pointer none, .pointer none] 34 (0, 0))
  h3 : W.heap[q + 2]? = some (.cells #[.int .i64 c.bits, .int .i64 c.budget, .int .i64 c.tries, .int .i64 c.quantum, .int .i64 c.way] 23 (0, 0))
  h4 : W.heap[q4]? = some (.cells #[vw, vr] 34 (0, 0))
theorem BxF.fr {f : Fst} {c : Conf} {q q4 : Nat} {vw vr : Value} {W W' : World} {K : TypeId → Bool} {mp : Bool} (h : BxF f c q q4 vw vr W) (hf : Fr K mp W W') (h1 : K 28 = false) (h2 : K 34 = false) (h3 : K 23 = false) : BxF f c q q4 vw vr W' :=
  ⟨hf.cells _ _ _ _ h.hF h1, hf.cells _ _ _ _ h.h2 h2, hf.cells _ _ _ _ h.h3 h3, hf.cells _ _ _ _ h.h4 h2⟩
theorem BxF.below {f : Fst} {c : Conf} {q q4 : Nat} {vw vr : Value} {W W' : World} (h : BxF f c q q4 vw vr W) (hb : Below W.heap.size W W') : BxF f c q q4 vw vr W' := h.fr (below_fr hb (fun _ => false) false) rfl rfl rfl
theorem BxF.set {f : Fst} {c : Conf} {q q4 : Nat} {vw vr : Value} {W : World} (h : BxF f c q q4 vw vr W) (hne : q4 ≠ q + 1) (o : Nat) (v : Value) (vw' vr' : Value) (hv : (#[vw, vr] : Array Value).setIfInBounds o v = #[vw', vr']) : BxF f c q q4 vw' vr' (W.setCell ⟨q4, o, none⟩ v) := by
  have hk := setCell_keeps W q4 o v
  have ne1 : q ≠ q4 := fun c => by
    have := h.hF; rw [c, h.h4] at this; simp only [Option.some.injEq, Obj.cells.injEq] at this; exact absurd this.2.1 (by decide)
  have ne3 : q + 2 ≠ q4 := fun c => by
    have := h.h3; rw [c, h.h4] at this; simp only [Option.some.injEq, Obj.cells.injEq] at this; exact absurd this.2.1 (by decide)
  refine ⟨(Below.heap_setCell _ _ _ _ ne1).trans h.hF, (Below.heap_setCell _ _ _ _ (Ne.symm hne)).trans h.h2, (Below.heap_setCell _ _ _ _ ne3).trans h.h3, ?_⟩
  rw [← hv]; exact setCell_same h.h4 o v
theorem setPair_fr {W : World} {q : Nat} {cs : Array Value} (h : W.heap[q]? = some (.cells cs 34 (0, 0))) (o : Nat) (v : Value) : Fr (fun T => T == 34) false W (W.setCell ⟨q, o, none⟩ v) :=
  keeps_fr (setCell_keeps W q o v) _ _ fun k e => ⟨_, _, _, e ▸ h, rfl⟩
theorem pairTy_w (T : TypeId) (h : wTy T = true) : (T == 34) = false := by
  cases hT : (T == 34)
  · rfl
  · rw [beq_iff_eq] at hT; subst hT; cases h
theorem pairTy_r (T : TypeId) (h : rTy T = true) : (T == 34) = false := by
  cases hT : (T == 34)
  · rfl
  · rw [beq_iff_eq] at hT; subst hT; cases h
theorem below_set {w W : World} {q o : Nat} {v : Value} (h : Below w.heap.size w W) (hq : w.heap.size ≤ q) : Below w.heap.size w (W.setCell ⟨q, o, none⟩ v) := keeps_below (setCell_keeps W q o v) h h.size fun k e => e ▸ hq
def BeginPost (f : Fst) (w : World) (e : Ending) (w' : World) : Prop := ∃ B R V s x, e = .returned (.agg #[.pointer (some ⟨B.wb, 0, none⟩), .pointer (some ⟨R.wb, 0, none⟩)]) ∧ Pr w w' B R V s x ∧ V = { v0 f.conf with its := f.its } ∧ Far s x 300 ∧ f.conf.ok = true ∧
  (f.gr = false → f.puts = [] → f.sts = [] → f.ticks ≤ 0 → s = CS.init [(2, f.conf.bits)])
end Go.Proofs.YtmakjfeepmiggaaGreat