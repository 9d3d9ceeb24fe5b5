import Derived.Test.YtmakjfeepmiggaaGreatZ7
import Derived.Test.YtmakjfeepmiggaaGreatZ9
import Derived.Test.YtmakjfeepmiggaaGreatZ8
import Derived.Test.YtmakjfeepmiggaaGreatB1
import Derived.Test.YtmakjfeepmiggaaGreatB2
namespace Go.Proofs.YtmakjfeepmiggaaGreat
open Go.RowKit Go.Maps
set_option linter.unusedVariables false
def Nkinds (l : List Nte) : Prop := ∀ y ∈ l, 1 ≤ y.kind ∧ y.kind ≤ 9
theorem Nkinds.add {l : List Nte} {n : Nte} (h : Nkinds l) : Nkinds (nadd l n) := by
  unfold nadd
  split
  · rename_i hk
    intro y hy
    rcases List.mem_append.1 hy with h1 | h1
    · exact h y h1
    · simp only [List.mem_singleton] at h1; subst h1; exact hk
  · exact h
theorem NRow.sl {w : World} {base : Nat} {v : Value} {l : List Nte} (h : NRow w base v l) : ∃ a, v = .slice a l.length l.length := by
  rcases h with ⟨rfl, rfl⟩ | ⟨g, cur, rfl, _⟩
  · exact ⟨none, rfl⟩
  · exact ⟨_, rfl⟩
theorem NRow.below {w w' : World} {base : Nat} {v : Value} {l : List Nte} (h : NRow w base v l) (hb : Below w.heap.size w w') : NRow w' base v l := by
  rcases h with h | ⟨g, cur, hv, h1, h2, h3⟩
  · exact .inl h
  · exact .inr ⟨g, cur, hv, h1, (hb.block _ (Array.getElem?_eq_some_iff.1 h2).1).trans h2, h3⟩
section
variable {w0 w : World} {B R : WB} {V : WV} {s : CS} {x : RS}
set_option maxRecDepth 10000 in
set_option maxHeartbeats 4000000 in
theorem psalln_any (h : Pr w0 w B R V s x) (hnl : V.nts.length ≤ 1000000) (hkd : Nkinds V.nts) (hl : V.its.length ≤ 1000000) (hsn : s.n ≤ 1000000) :
    Calls Tryz.prog 17 #[.agg #[.pointer (some ⟨B.wb, 0, none⟩), .pointer (some ⟨R.wb, 0, none⟩)]] w fun e w' => e = .returned (.bool true) ∧ Below w.heap.size w w' := by
  have hq0 := heap_alloc_new w (.cells #[.pointer (some ⟨B.wb, 0, none⟩), .pointer (some ⟨R.wb, 0, none⟩)] 34)
  have hB1 := below_alloc w (.cells #[.pointer (some ⟨B.wb, 0, none⟩), .pointer (some ⟨R.wb, 0, none⟩)] 34)
  have H1 := Lib.hid (h.keep hB1); have HQ := Lib.hid hq0; have HB1 := Lib.hid hB1; have HNL := Lib.hid hnl; have HKD := Lib.hid hkd; have HL := Lib.hid hl; have HSN := Lib.hid hsn
  clear h hq0 hB1 hnl hkd hl hsn
  go_enter Tryz.func17, Tryz.ntmps17
  go_upto_region 1 with (fail)
  change Code.wp _ _ _ _ (w.alloc (.cells #[.pointer (some ⟨B.wb, 0, none⟩), .pointer (some ⟨R.wb, 0, none⟩)] 34))
  generalize w.alloc (.cells #[.pointer (some ⟨B.wb, 0, none⟩), .pointer (some ⟨R.wb, 0, none⟩)] 34) = w1 at *
  have hq := HQ.out
  have q0 := fun st : ExtW w1 => st.cell (hcell hq 0)
  have q1 := fun st : ExtW w1 => st.cell (hcell hq 1)
  have d0 := fun st : ExtW w1 => st.cell H1.out.ws.hd.1
  have g0 := fun st : ExtW w1 => st.cell H1.out.rd.hd.1
  have hs := fun st : ExtW w1 => psame_any (H1.out.keep st.below)
  have h5 := fun st : ExtW w1 => same05_any (⟨(H1.out.keep st.below).ws.own, (H1.out.keep st.below).rd.ref, (H1.out.keep st.below).al⟩ : Both w0 st.val B.cb R.cb s x) HSN.out
  clear hq
  refine wp_region_ext (by kernel_rfl) (by kernel_rfl) ?_
  repeat (go_big_quiet_step (first
    | (go_at_call 16; with_reducible refine calls_ext (hs _))
    | (go_at_call 73; with_reducible refine calls_ext (h5 _))))
  refine wpQuiet_nil ?_
  rintro W2 ⟨⟨W3, hW⟩, rfl⟩
  have H2 := Lib.hid (H1.out.keep hW)
  have HQ2 := Lib.hid ((hW.block _ (Array.getElem?_eq_some_iff.1 HQ.out).1).trans HQ.out)
  have HB2 : Hid (Below w.heap.size w W2) := HB1.out.trans (hW.mono HB1.out.size)
  clear q0 q1 d0 g0 hs h5 hW H1 HQ HB1
  have p0 := hcell HQ2.out 0
  have p1 := hcell HQ2.out 1
  obtain ⟨c0, c1, c2, c72⟩ := H2.out.ws.hd
  have hal := lall_any H2.out.ws.nt (by have := HNL.out; omega)
  go_upto_region 4 with (go_at_call 74; refine hal.mono ?_; intro e w4 hh; obtain ⟨v, hh1, hr, b4⟩ := hh; subst hh1; have HNR := Lib.hid hr; have H4 := Lib.hid (H2.out.keep b4); have HQ4 := Lib.hid ((b4.block _ (Array.getElem?_eq_some_iff.1 HQ2.out).1).trans HQ2.out); have HB4 : Hid (Below w.heap.size w w4) := HB2.out.trans (b4.mono HB2.out.size); clear hr b4 hal p0 p1 c0 c1 c2 c72)
  clear H2 HQ2 HB2
  obtain ⟨va, rfl⟩ := HNR.out.sl
  have p0 := hcell HQ4.out 0
  have p1 := hcell HQ4.out 1
  obtain ⟨r0, r1, r2, r72⟩ := H4.out.rd.hd
  obtain ⟨nv, hn1, hn2, hn3⟩ := H4.out.rd.nt
  obtain ⟨na, ncap, hnv⟩ := own_sl hn3
  subst hnv
  have n0 : w4.cell? ⟨R.nb, 0, none⟩ = some (.slice na V.nts.length ncap) := hcell hn1 0
  clear hn1 hn2 hn3
  go_wp2_with fail
  clear p0 p1 r0 r1 r2 r72 n0
  go_loopw [4] (fun i wr => ∃ k : Nat, k ≤ V.nts.length ∧ i = .int .i64 k ∧ Pr w0 wr B R V s x ∧ wr.heap[w.heap.size]? = some (.cells #[.pointer (some ⟨B.wb, 0, none⟩), .pointer (some ⟨R.wb, 0, none⟩)] 34 (0, 0)) ∧ NRow wr W2.heap.size (.slice va V.nts.length V.nts.length) V.nts ∧ Below w.heap.size w wr) (fun i _ => V.nts.length - (intOf i).toNat)
  case atStart => exact ⟨0, by omega, rfl, H4.out, HQ4.out, HNR.out, HB4.out⟩
  case round =>
   clear H4 HQ4 HB4 HNR
   obtain ⟨k, hk, rfl, h, hq, hnr, hB⟩ := hrel
   have hnlb := HNL.out
   by_cases hlt : k < V.nts.length
   · have hlt' : (k : Int) < V.nts.length := by omega
     have p0 := hcell hq 0
     have p1 := hcell hq 1
     obtain ⟨r0, r1, r2, r72⟩ := h.rd.hd
     obtain ⟨nv, hn1, hn2, hn3⟩ := h.rd.nt
     obtain ⟨na, ncap, hnv⟩ := own_sl hn3
     subst hnv
     have n0 : wr.cell? ⟨R.nb, 0, none⟩ = some (.slice na V.nts.length ncap) := hcell hn1 0
     obtain ⟨g, hv, hcs⟩ := hnr.at k hlt
     simp only [Value.slice.injEq, and_true] at hv
     obtain ⟨rg, hrv, hrs⟩ := rrow8_at hn3 k hlt
     subst hrv
     obtain ⟨y, hy⟩ : ∃ y, y = V.nts[k]'hlt := ⟨_, rfl⟩
     rw [← hy] at hcs hrs
     have hkk := HKD.out y (by rw [hy]; exact List.getElem_mem hlt)
     have q0 : wr.cell? ⟨rg, k * 8, none⟩ = some (.int .i64 y.step) := hrs 0 (by omega)
     have q1 : wr.cell? ⟨rg, k * 8 + 1, none⟩ = some (.int .i64 y.thread) := hrs 1 (by omega)
     have q2 : wr.cell? ⟨rg, k * 8 + 2, none⟩ = some (.int .i64 y.kind) := hrs 2 (by omega)
     have q3 : wr.cell? ⟨rg, k * 8 + 3, none⟩ = some (.int .i64 y.ref) := hrs 3 (by omega)
     have q4 : wr.cell? ⟨rg, k * 8 + 4, none⟩ = some (.int .i64 y.bits) := hrs 4 (by omega)
     have q5 : wr.cell? ⟨rg, k * 8 + 5, none⟩ = some (.int .i64 y.bucket) := hrs 5 (by omega)
     have q6 : wr.cell? ⟨rg, k * 8 + 6, none⟩ = some (.int .i64 y.slot) := hrs 6 (by omega)
     have q7 : wr.cell? ⟨rg, k * 8 + 7, none⟩ = some (.int .i64 y.value) := hrs 7 (by omega)
     have HR := Lib.hid h; have HQ := Lib.hid hq; have HNRR := Lib.hid hnr; have HB := Lib.hid hB; have HCS := Lib.hid hcs; have HVV := Lib.hid hv; have HKK := Lib.hid hkk
     clear h hq hnr hB hn1 hn2 hn3 hcs hrs hy hv hkk r0 r1 r72
     go_upto_region 10 with (fail)
     have hb5 := below_alloc wr (.cells (nteC .i64 y).toArray 168)
     have hz5 := heap_alloc_new wr (.cells (nteC .i64 y).toArray 168)
     have HB5 := Lib.hid hb5; have HZ5 := Lib.hid hz5
     clear hb5 hz5 p0 p1 r2 n0 q0 q1 q2 q3 q4 q5 q6 q7
     change Code.wp _ _ _ _ (wr.alloc (.cells (nteC .i64 y).toArray 168))
     have x0 : ∀ st : ExtW (wr.alloc (.cells (nteC .i64 y).toArray 168)), st.val.cell? ⟨g, k * 8, none⟩ = some (.int .i64 y.step) := fun st => st.cell ((HB5.out.cell (p := ⟨g, k * 8, none⟩) (World.block_lt_of_cell? _ _ (HCS.out 0 (by omega)))).trans (HCS.out 0 (by omega)))
     have x1 : ∀ st : ExtW (wr.alloc (.cells (nteC .i64 y).toArray 168)), st.val.cell? ⟨g, k * 8 + 1, none⟩ = some (.int .i64 y.thread) := fun st => st.cell ((HB5.out.cell (p := ⟨g, k * 8 + 1, none⟩) (World.block_lt_of_cell? _ _ (HCS.out 1 (by omega)))).trans (HCS.out 1 (by omega)))
     have x2 : ∀ st : ExtW (wr.alloc (.cells (nteC .i64 y).toArray 168)), st.val.cell? ⟨g, k * 8 + 2, none⟩ = some (.int .u8 y.kind) := fun st => st.cell ((HB5.out.cell (p := ⟨g, k * 8 + 2, none⟩) (World.block_lt_of_cell? _ _ (HCS.out 2 (by omega)))).trans (HCS.out 2 (by omega)))
     have x3 : ∀ st : ExtW (wr.alloc (.cells (nteC .i64 y).toArray 168)), st.val.cell? ⟨g, k * 8 + 3, none⟩ = some (.int .i64 y.ref) := fun st => st.cell ((HB5.out.cell (p := ⟨g, k * 8 + 3, none⟩) (World.block_lt_of_cell? _ _ (HCS.out 3 (by omega)))).trans (HCS.out 3 (by omega)))
     have x4 : ∀ st : ExtW (wr.alloc (.cells (nteC .i64 y).toArray 168)), st.val.cell? ⟨g, k * 8 + 4, none⟩ = some (.int .i64 y.bits) := fun st => st.cell ((HB5.out.cell (p := ⟨g, k * 8 + 4, none⟩) (World.block_lt_of_cell? _ _ (HCS.out 4 (by omega)))).trans (HCS.out 4 (by omega)))
     have x5 : ∀ st : ExtW (wr.alloc (.cells (nteC .i64 y).toArray 168)), st.val.cell? ⟨g, k * 8 + 5, none⟩ = some (.int .i64 y.bucket) := fun st => st.cell ((HB5.out.cell (p := ⟨g, k * 8 + 5, none⟩) (World.block_lt_of_cell? _ _ (HCS.out 5 (by omega)))).trans (HCS.out 5 (by omega)))
     have x6 : ∀ st : ExtW (wr.alloc (.cells (nteC .i64 y).toArray 168)), st.val.cell? ⟨g, k * 8 + 6, none⟩ = some (.int .i64 y.slot) := fun st => st.cell ((HB5.out.cell (p := ⟨g, k * 8 + 6, none⟩) (World.block_lt_of_cell? _ _ (HCS.out 6 (by omega)))).trans (HCS.out 6 (by omega)))
     have x7 : ∀ st : ExtW (wr.alloc (.cells (nteC .i64 y).toArray 168)), st.val.cell? ⟨g, k * 8 + 7, none⟩ = some (.int .i64 y.value) := fun st => st.cell ((HB5.out.cell (p := ⟨g, k * 8 + 7, none⟩) (World.block_lt_of_cell? _ _ (HCS.out 7 (by omega)))).trans (HCS.out 7 (by omega)))
     generalize wr.alloc (.cells (nteC .i64 y).toArray 168) = w5 at *
     have HR5 := Lib.hid (HR.out.keep HB5.out)
     have HQ5 := Lib.hid ((HB5.out.block _ (Array.getElem?_eq_some_iff.1 HQ.out).1).trans HQ.out)
     have HN5 := Lib.hid (HNRR.out.below HB5.out)
     have HBB : Hid (Below w.heap.size w w5) := HB.out.trans (HB5.out.mono HB.out.size)
     clear HR HQ HNRR HB HCS HB5
     generalize wr.heap.size = nq at *
     have z0 : ∀ st : ExtW w5, st.val.cell? ⟨nq, 0, none⟩ = some (.int .i64 y.step) := fun st => st.cell (hcell HZ5.out 0)
     have z1 : ∀ st : ExtW w5, st.val.cell? ⟨nq, 1, none⟩ = some (.int .i64 y.thread) := fun st => st.cell (hcell HZ5.out 1)
     have z2 : ∀ st : ExtW w5, st.val.cell? ⟨nq, 2, none⟩ = some (.int .i64 y.kind) := fun st => st.cell (hcell HZ5.out 2)
     have z3 : ∀ st : ExtW w5, st.val.cell? ⟨nq, 3, none⟩ = some (.int .i64 y.ref) := fun st => st.cell (hcell HZ5.out 3)
     have z4 : ∀ st : ExtW w5, st.val.cell? ⟨nq, 4, none⟩ = some (.int .i64 y.bits) := fun st => st.cell (hcell HZ5.out 4)
     have z5 : ∀ st : ExtW w5, st.val.cell? ⟨nq, 5, none⟩ = some (.int .i64 y.bucket) := fun st => st.cell (hcell HZ5.out 5)
     have z6 : ∀ st : ExtW w5, st.val.cell? ⟨nq, 6, none⟩ = some (.int .i64 y.slot) := fun st => st.cell (hcell HZ5.out 6)
     have z7 : ∀ st : ExtW w5, st.val.cell? ⟨nq, 7, none⟩ = some (.int .i64 y.value) := fun st => st.cell (hcell HZ5.out 7)
     have hva := HVV.out
     have hkk := HKK.out
     have ekk : wrap64 y.kind = y.kind := IntWalk.wrap64_in _ (by omega)
     clear hkk
     subst hva
     refine wp_region_ext (by kernel_rfl) (by kernel_rfl) ?_
     repeat (go_big_quiet_step (fail))
     refine wpQuiet_nil ?_
     rintro W9 ⟨⟨W8, hW⟩, rfl⟩
     clear x0 x1 x2 x3 x4 x5 x6 x7 z0 z1 z2 z3 z4 z5 z6 z7 ekk
     have HW := Lib.hid hW
     clear hW
     go_wp2_with fail
     go_roundw
     case rel => exact ⟨k + 1, by omega, by go_num, HR5.out.keep HW.out, (HW.out.block _ (Array.getElem?_eq_some_iff.1 HQ5.out).1).trans HQ5.out, HN5.out.below HW.out, HBB.out.trans (HW.out.mono HBB.out.size)⟩
     case measure => simp [intOf]; omega
   obtain rfl : k = V.nts.length := by omega
   have H4 := Lib.hid h; have HQ4 := Lib.hid hq; have HB4 := Lib.hid hB
   clear h hq hB hnr hlt
   go_wp2_with fail
   go_loopw [6] (fun i wr => ∃ k : Nat, k ≤ V.its.length + 2 ∧ i = .int .i64 k ∧ Pr w0 wr B R V s x ∧ wr.heap[w.heap.size]? = some (.cells #[.pointer (some ⟨B.wb, 0, none⟩), .pointer (some ⟨R.wb, 0, none⟩)] 34 (0, 0)) ∧ Below w.heap.size w wr) (fun i _ => V.its.length + 2 - (intOf i).toNat)
   case atStart => exact ⟨0, by omega, rfl, H4.out, HQ4.out, HB4.out⟩
   case round =>
     clear H4 HQ4 HB4
     obtain ⟨k, hk, rfl, h, hq, hB⟩ := hrel
     have p0 := hcell hq 0
     have p1 := hcell hq 1
     obtain ⟨c0, c1, c2, c72⟩ := h.ws.hd
     obtain ⟨r0, r1, r2, r72⟩ := h.rd.hd
     have hri := h.rd.icount
     have hl := HL.out
     by_cases hlt : k ≤ V.its.length + 1
     · have hlt' : (k : Int) ≤ V.its.length + 1 := by omega
       have hia := h.ws.iat (by omega) k
       obtain ⟨yy, hye⟩ : ∃ yy, atOf V.its k = yy := ⟨_, rfl⟩
       rw [hye] at hia
       have HYE := Lib.hid hye
       clear hye
       have HRI := Lib.hid h; have HQ := Lib.hid hq; have HB := Lib.hid hB
       clear h hq hB
       go_upto_region 16 with (first
         | (go_at_call 72; with_reducible refine hri.mono ?_; rintro e w' ⟨rfl, hw⟩; obtain rfl := hw; clear hri)
         | (go_at_call 75; with_reducible refine hia.mono ?_; rintro e w5 ⟨rfl, b5⟩; clear hia p0 p1 c0 c1 c2 c72 r0 r1 r2 r72; have H5 := Lib.hid b5))
       obtain ⟨y, yb⟩ := yy
       simp only []
       have hb6 := below_alloc w5 (.cells y.cells.toArray 80)
       have hy6 : Box (w5.alloc (.cells y.cells.toArray 80)) w5.heap.size y := heap_alloc_new w5 _
       change Code.wp _ _ _ _ (w5.alloc (.cells y.cells.toArray 80))
       generalize w5.alloc (.cells y.cells.toArray 80) = w6 at *
       have hb16 : Below wr.heap.size wr w6 := H5.out.trans (hb6.mono H5.out.size)
       generalize w5.heap.size = qa at *
       have HY6 := Lib.hid hy6
       have H6 := Lib.hid (HRI.out.keep hb16)
       have HQ6 := Lib.hid ((hb16.block _ (Array.getElem?_eq_some_iff.1 HQ.out).1).trans HQ.out)
       have HB6 : Hid (Below w.heap.size w w6) := HB.out.trans (hb16.mono HB.out.size)
       have p1 := hcell HQ6.out 1
       have r1 := H6.out.rd.hd.2.1
       have hrb := H6.out.rd.iat (by have := HL.out; omega) k
       rw [HYE.out] at hrb
       clear hb6 hy6 hb16 H5 HRI HQ HB
       go_upto_region 17 with (go_at_call 76; with_reducible refine hrb.mono ?_; rintro e w7 ⟨rfl, b7⟩; clear hrb p1 r1; have H7 := Lib.hid b7)
       have hb8 := below_alloc w7 (.cells y.cells.toArray 80)
       have hy8 : Box (w7.alloc (.cells y.cells.toArray 80)) w7.heap.size y := heap_alloc_new w7 _
       change Code.wp _ _ _ _ (w7.alloc (.cells y.cells.toArray 80))
       generalize w7.alloc (.cells y.cells.toArray 80) = w8 at *
       have hb68 : Below w6.heap.size w6 w8 := H7.out.trans (hb8.mono H7.out.size)
       generalize w7.heap.size = qb at *
       have hya : Box w8 qa y := HY6.out.below hb68
       obtain ⟨a0, a1, a2, a3, a4, a5⟩ := hya.cells
       obtain ⟨e0, e1, e2, e3, e4, e5⟩ := hy8.cells
       have H8 := Lib.hid (H6.out.keep hb68)
       have HQ8 := Lib.hid ((hb68.block _ (Array.getElem?_eq_some_iff.1 HQ6.out).1).trans HQ6.out)
       have HB8 : Hid (Below w.heap.size w w8) := HB6.out.trans (hb68.mono HB6.out.size)
       clear hb8 hb68 hya hy8 H6 HQ6 HB6 HY6 H7
       go_wp2_with fail
       go_roundw
       case rel => exact ⟨k + 1, by omega, by go_num, H8.out, HQ8.out, HB8.out⟩
       case measure => simp [intOf]; omega
     · obtain rfl : k = V.its.length + 2 := by omega
       have hlt' : (V.its.length : Int) + 1 < ((V.its.length + 2 : Nat) : Int) := by omega
       have HB9 := Lib.hid hB
       clear h hq hB
       go_wp2_with (go_at_call 72; with_reducible refine hri.mono ?_; rintro e w' ⟨rfl, hw⟩; obtain rfl := hw; clear hri)
       go_ret
       exact ⟨rfl, HB9.out⟩
end
end Go.Proofs.YtmakjfeepmiggaaGreat
namespace Go.Proofs.YtmakjfeepmiggaaGreat
open Go.RowKit Go.Maps
set_option linter.unusedVariables false
end Go.Proofs.YtmakjfeepmiggaaGreat
namespace Go.Proofs.YtmakjfeepmiggaaGreat
open Go.RowKit Go.Maps
set_option linter.unusedVariables false
structure WAc where
  k : Int
  n : Int
  r : Int
  b : Int
  u : Int
  s : Int
  v : Int
  a : Int
  w : Int
  it : Itm
def WAc.cells (x : WAc) : List Value := [.int .u8 x.k, .int .u8 x.n, .int .i64 x.r, .int .i64 x.b, .int .i64 x.u, .int .i64 x.s, .int .i64 x.v, .int .u64 x.a, .int .u64 x.w, .string x.it.key, .string x.it.val, .int .u32 x.it.flags, .int .u64 x.it.id, .int .i64 x.it.dies, .int .i64 x.it.gen]
structure WAc.wf (x : WAc) : Prop where
  k : (Lit.int .u8 x.k).wf = true
  n : (Lit.int .u8 x.n).wf = true
  r : (Lit.int .i64 x.r).wf = true
  b : (Lit.int .i64 x.b).wf = true
  u : (Lit.int .i64 x.u).wf = true
  s : (Lit.int .i64 x.s).wf = true
  v : (Lit.int .i64 x.v).wf = true
  a : (Lit.int .u64 x.a).wf = true
  w : (Lit.int .u64 x.w).wf = true
structure WActs (w : World) (a : Option Addr) (cap : Nat) (l : List WAc) : Prop where
  le : l.length ≤ cap
  most : cap ≤ maxLen
  nil : a = none → cap = 0
  wf : ∀ x ∈ l, x.wf
  cell : l = [] ∨ ∃ b off, a = some ⟨b, off, none⟩ ∧ ∀ i, (hi : i < l.length) → ∀ j, j < 15 → w.cell? ⟨b, off + (i * 15 + j), none⟩ = (l[i]).cells[j]?
theorem WActs.at {w : World} {a : Option Addr} {cap : Nat} {l : List WAc} (h : WActs w a cap l) (i : Nat) (hi : i < l.length) :
    ∃ b off x, a = some ⟨b, off, none⟩ ∧ l[i]? = some x ∧ x.wf ∧ w.cell? ⟨b, off + i * 15, none⟩ = some (.int .u8 x.k) ∧ w.cell? ⟨b, off + i * 15 + 1, none⟩ = some (.int .u8 x.n) ∧ w.cell? ⟨b, off + i * 15 + 2, none⟩ = some (.int .i64 x.r) ∧ w.cell? ⟨b, off + i * 15 + 3, none⟩ = some (.int .i64 x.b) ∧ w.cell? ⟨b, off + i * 15 + 4, none⟩ = some (.int .i64 x.u) ∧ w.cell? ⟨b, off + i * 15 + 5, none⟩ = some (.int .i64 x.s) ∧ w.cell? ⟨b, off + i * 15 + 6, none⟩ = some (.int .i64 x.v) ∧ w.cell? ⟨b, off + i * 15 + 7, none⟩ = some (.int .u64 x.a) ∧ w.cell? ⟨b, off + i * 15 + 8, none⟩ = some (.int .u64 x.w) ∧ w.cell? ⟨b, off + i * 15 + 9, none⟩ = some (.string x.it.key) ∧ w.cell? ⟨b, off + i * 15 + 10, none⟩ = some (.string x.it.val) ∧ w.cell? ⟨b, off + i * 15 + 11, none⟩ = some (.int .u32 x.it.flags) ∧ w.cell? ⟨b, off + i * 15 + 12, none⟩ = some (.int .u64 x.it.id) ∧ w.cell? ⟨b, off + i * 15 + 13, none⟩ = some (.int .i64 x.it.dies) ∧ w.cell? ⟨b, off + i * 15 + 14, none⟩ = some (.int .i64 x.it.gen) := by
  rcases h.cell with rfl | ⟨b, off, rfl, h5⟩
  · simp at hi
  · have h6 := h5 i hi
    refine ⟨b, off, l[i], rfl, List.getElem?_eq_getElem hi, h.wf _ (List.getElem_mem hi), h6 0 (by omega), ?_, ?_, ?_, ?_, ?_, ?_, ?_, ?_, ?_, ?_, ?_, ?_, ?_, ?_⟩
    · rw [Nat.add_assoc]; exact h6 1 (by omega)
    · rw [Nat.add_assoc]; exact h6 2 (by omega)
    · rw [Nat.add_assoc]; exact h6 3 (by omega)
    · rw [Nat.add_assoc]; exact h6 4 (by omega)
    · rw [Nat.add_assoc]; exact h6 5 (by omega)
    · rw [Nat.add_assoc]; exact h6 6 (by omega)
    · rw [Nat.add_assoc]; exact h6 7 (by omega)
    · rw [Nat.add_assoc]; exact h6 8 (by omega)
    · rw [Nat.add_assoc]; exact h6 9 (by omega)
    · rw [Nat.add_assoc]; exact h6 10 (by omega)
    · rw [Nat.add_assoc]; exact h6 11 (by omega)
    · rw [Nat.add_assoc]; exact h6 12 (by omega)
    · rw [Nat.add_assoc]; exact h6 13 (by omega)
    · rw [Nat.add_assoc]; exact h6 14 (by omega)
theorem WActs.below {w w' : World} {a : Option Addr} {cap : Nat} {l : List WAc} (h : WActs w a cap l) (hb : Below w.heap.size w w') : WActs w' a cap l := by
  refine ⟨h.le, h.most, h.nil, h.wf, h.cell.imp id fun ⟨b, off, e, h5⟩ => ⟨b, off, e, fun i hi j hj => ?_⟩⟩
  have h6 := h5 i hi j hj
  obtain ⟨v, hv⟩ : ∃ v, (l[i]).cells[j]? = some v := by
    match j, hj with
    | 0, _ | 1, _ | 2, _ | 3, _ | 4, _ | 5, _ | 6, _ | 7, _ | 8, _ | 9, _ | 10, _ | 11, _ | 12, _ | 13, _ | 14, _ => exact ⟨_, rfl⟩
  rw [hv] at h6 ⊢
  exact (hb.cell (World.block_lt_of_cell? _ _ h6)).trans h6
end Go.Proofs.YtmakjfeepmiggaaGreat