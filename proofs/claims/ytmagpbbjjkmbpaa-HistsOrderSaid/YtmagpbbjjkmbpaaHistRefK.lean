/-
  A copy of a history, in memory of its own (nestboxlaw34.copied).
-/
import Derived.Test.YtmagpbbjjkmbpaaHistRefT
namespace Go.Proofs.Ytmagpbbjjkmbpaa
open Go.RowKit Go.Maps Go.Sort
set_option linter.unusedVariables false

section
variable {P : Program}
/-- 'append(nil, x...)': a copy. -/
theorem wp_append_copy {o : Oper} {a : Act} {w : World} {K : Act → World → Prop} {Q : Exit → Act → World → Prop} (s x : Operand) (t : TypeId)
    (ho : o.op = .call { callee := .builtin .append, args := #[s, x], argTypes := #[t, t] })
    (e : TypeId) (i : TypeInfo) (z : Value) (size bytes : Nat) (ht : P.underlying t = some (.slice e)) (hi : P.info? e = some i) (hz : i.zero = some z)
    (hsize : i.size = size) (hby : i.bytes = bytes) (hzs : z.cells.size = size) (hsz : 0 < size)
    (hs : a.eval s = .slice none 0 0) (ax : Option Addr) (m c : Nat) (news : List Value) (hx : a.eval x = .slice ax m c) (hl : news.length = m * size)
    (hn : m = 0 ∨ ∃ ad, ax = some ad ∧ ∀ j u, news[j]? = some u → w.cell? (ad.add j) = some u) (h1 : ∀ u ∈ news, u.oneCell' = true)
    (h63 : m ≤ maxLen) (hbytes : m * bytes ≤ 140737488355328)
    (h : ∀ ag cap w', w'.ownsRow w.heap.size e size (.slice ag m cap) m news → Below w.heap.size w w' → K (a.put o.dst (.slice ag m cap)) w') : o.wp P a w K Q := by
  by_cases hm : m = 0
  · subst hm
    have hnil : news = [] := List.length_eq_zero_iff.1 (by omega)
    subst hnil
    have hrun : (Builtin.append_ #[t, t] o.type #[.slice none 0 0, .slice ax 0 c]).run P w = .ok (.slice none 0 0) w := by
      cases ax with
      | none => simp [Builtin.append_, run_underlying ht, sizeOf, typeInfo, hi, Builtin.lenOf, Builtin.firstCells]
      | some ad =>
        have hfc := run_firstCells_some (P := P) w i.size 0 ad 0 c [] (by simp) (fun j u hj => by simp at hj)
        simp [Builtin.append_, run_underlying ht, sizeOf, typeInfo, hi, Builtin.lenOf, hfc]
    unfold Oper.wp
    simp [execOp, ho, resolve, invoke, builtin, hs, hx, hrun, Result.andThen]
    exact h none 0 w (World.ownsRow_nil _ _ _ _) (Below.refl _ _)
  · rcases hn with hn | ⟨ad, rfl, hn⟩
    · exact absurd hn hm
    refine wp_append_lies w s x t ho w.heap.size e i z size bytes ht hi hz hsize hby hzs hsz _ 0 [] hs (World.ownsRow_nil _ _ _ _) ad m c news hx hl hn h1 (by omega) (by omega) (by rw [Nat.zero_add]; exact hbytes) (Nat.le_refl _) _ rfl ?_
    intro g cap w' hown hgrow _ _
    simp only [Nat.zero_add, List.nil_append] at hown ⊢
    exact h _ cap w' hown ((Below.refl _ _).grown hgrow (Nat.le_refl _) (fun j hj => by simp [Value.ownBlock] at hj))
end
theorem hcs_news {w : World} {a : Option Addr} {cap : Nat} {l : List HC} (h : HCs w a cap l) : l.length = 0 ∨ ∃ ad, a = some ad ∧ ∀ j u, (flatC l)[j]? = some u → w.cell? (ad.add j) = some u := by
  rcases h.cell with rfl | ⟨b, off, rfl, h5⟩
  · exact .inl rfl
  · refine .inr ⟨_, rfl, fun j u hj => ?_⟩
    have hlen : (flatC l).length = l.length * 20 := by
      unfold flatC; clear h h5 hj; induction l with
      | nil => simp
      | cons x r ih => rw [List.flatMap_cons, List.length_append, ih]; simp [HC.cells]; omega
    have hj2 := (List.getElem?_eq_some_iff.1 hj).1
    have h6 := h5 (j / 20) (by omega) (j % 20) (by omega)
    have h7 := flatC_at l (j / 20) (by omega) (j % 20) (by omega)
    rw [show j / 20 * 20 + j % 20 = j by omega] at h6 h7
    rw [← h7, hj] at h6
    rw [Addr.add_mid]; exact h6
theorem hds_news {w : World} {a : Option Addr} {cap : Nat} {l : List HD} (h : HDs w a cap l) : l.length = 0 ∨ ∃ ad, a = some ad ∧ ∀ j u, (flatD l)[j]? = some u → w.cell? (ad.add j) = some u := by
  rcases h.cell with rfl | ⟨b, off, rfl, h5⟩
  · exact .inl rfl
  · refine .inr ⟨_, rfl, fun j u hj => ?_⟩
    have hlen : (flatD l).length = l.length * 7 := by
      unfold flatD; clear h h5 hj; induction l with
      | nil => simp
      | cons x r ih => rw [List.flatMap_cons, List.length_append, ih]; simp [HD.cells]; omega
    have hj2 := (List.getElem?_eq_some_iff.1 hj).1
    have h6 := h5 (j / 7) (by omega) (j % 7) (by omega)
    have h7 := flatD_at l (j / 7) (by omega) (j % 7) (by omega)
    rw [show j / 7 * 7 + j % 7 = j by omega] at h6 h7
    rw [← h7, hj] at h6
    rw [Addr.add_mid]; exact h6
theorem flatC_len (l : List HC) : (flatC l).length = l.length * 20 := by
  unfold flatC; induction l with
  | nil => simp
  | cons x r ih => rw [List.flatMap_cons, List.length_append, ih]; simp [HC.cells]; omega
theorem flatD_len (l : List HD) : (flatD l).length = l.length * 7 := by
  unfold flatD; induction l with
  | nil => simp
  | cons x r ih => rw [List.flatMap_cons, List.length_append, ih]; simp [HD.cells]; omega
theorem flatC_one (l : List HC) : ∀ u ∈ flatC l, u.oneCell' = true := fun u hu => by
  obtain ⟨x, -, hx⟩ := List.mem_flatMap.1 hu
  exact (Array.all_eq_true_iff_forall_mem.1 (HC.one x)) u (by simpa using hx)
theorem flatD_one (l : List HD) : ∀ u ∈ flatD l, u.oneCell' = true := fun u hu => by
  obtain ⟨x, -, hx⟩ := List.mem_flatMap.1 hu
  exact (Array.all_eq_true_iff_forall_mem.1 (HD.one x)) u (by simpa using hx)
set_option maxRecDepth 100000 in
set_option maxHeartbeats 8000000 in
theorem copied_any (h : Hst) (w : World) (hr : HstRd w h) (h1 : h.cs.length ≤ 120) (h2 : h.ds.length ≤ 60) :
    Calls Try.prog 8 #[.agg #[.slice h.ca h.cs.length h.cc, .slice h.da h.ds.length h.dc]] w (OtherPost h w) := by
  obtain ⟨i0, hi0, hz0, hz1, hz2⟩ := info_parts3 info_called
  have HI := Lib.hid hi0; have HZ0 := Lib.hid hz0; have HZ1 := Lib.hid hz1; have HZ2 := Lib.hid hz2
  obtain ⟨j0, hj0, hk0, hk1, hk2⟩ := info_parts3 info_drop
  have JI := Lib.hid hj0; have JZ0 := Lib.hid hk0; have JZ1 := Lib.hid hk1; have JZ2 := Lib.hid hk2
  clear hi0 hz0 hz1 hz2 hj0 hk0 hk1 hk2
  have HR := Lib.hid hr
  have H1 := Lib.hid h1; have H2 := Lib.hid h2
  clear hr h1 h2
  go_enter Try.func8, Try.ntmps8
  go_upto_region 1 with (fail)
  obtain ⟨wa, hwa⟩ : ∃ wa, wa = w.alloc (.cells h.cells 25) := ⟨_, rfl⟩
  obtain ⟨wb, hwb⟩ : ∃ wb, wb = wa.alloc (.cells #[.slice none 0 0, .slice none 0 0] 25) := ⟨_, rfl⟩
  change Code.wp _ _ _ _ ((w.alloc (.cells h.cells 25)).alloc (.cells #[.slice none 0 0, .slice none 0 0] 25))
  rw [← hwa, ← hwb]
  have sa : wa.heap.size = w.heap.size + 1 := by rw [hwa]; simp
  have sb : wb.heap.size = w.heap.size + 2 := by rw [hwb]; simp; omega
  have za : wa.heap[w.heap.size]? = some (.cells h.cells 25 (0, 0)) := by rw [hwa]; exact heap_alloc_new w _
  have ba : Below w.heap.size w wa := by rw [hwa]; exact hballoc w _
  have bb : Below wa.heap.size wa wb := by rw [hwb]; exact hballoc wa _
  have zb : wb.heap[w.heap.size + 1]? = some (.cells #[.slice none 0 0, .slice none 0 0] 25 (0, 0)) := by rw [← sa, hwb]; exact heap_alloc_new wa _
  have HZ := Lib.hid ((bb.block w.heap.size (by omega)).trans za)
  have HZB := Lib.hid zb
  have HB := Lib.hid (ba.trans (bb.mono (by omega)))
  have HR1 := Lib.hid (HR.out.below HB.out)
  have HSB := Lib.hid sb
  clear hwa hwb sa sb za ba bb zb
  have c0 : wb.cell? ⟨w.heap.size, 0, none⟩ = some (.slice h.ca h.cs.length h.cc) := hblk HZ.out 0
  have c1 : wb.cell? ⟨w.heap.size, 1, none⟩ = some (.slice h.da h.ds.length h.dc) := hblk HZ.out 1
  have y0 := fun st : ExtW wb => st.cell c0
  have y1 := fun st : ExtW wb => st.cell c1
  clear c0 c1
  refine wp_region_mix (D := fun W => ∃ s : ExtW wb, W = s.val) [0, 1, 3, 4] [2] 5 [6, 7] (by kernel_rfl) (by kernel_rfl) (by kernel_rfl) (by kernel_rfl) (by decide) (by kernel_rfl) (by kernel_rfl) (fun c d v a w h => by cases d <;> exact h) ⟨⟨_, (Below.refl _ _).drew⟩, rfl⟩ ?_
  simp only [pickL_cons, pickL_nil, List.drop_succ_cons, List.drop_zero, List.take_succ_cons, List.take_zero, List.cons_append, List.nil_append]
  repeat (go_big_quiet_step (fail))
  refine wpQuiet_nil ?_
  clear y0 y1
  have HBD := Lib.hid (show Below wb.heap.size wb wb.drew from (Below.refl _ _).drew)
  have HR2 := Lib.hid (HR1.out.below HBD.out)
  refine tailM_op rfl rfl ?_
  refine wp_append_copy _ (.tmp 4) 22 rfl 57 i0 _ 20 192 Try.underlying22 HI.out HZ0.out HZ1.out HZ2.out rfl (by decide) rfl h.ca h.cs.length h.cc (flatC h.cs) rfl (flatC_len _) (hcs_news HR2.out.cs) (flatC_one _) (by have := H1.out; unfold maxLen; omega) (by have := H1.out; omega) ?_
  intro ac acap w3 hown hb3
  have HB3 := Lib.hid (HBD.out.trans hb3)
  have HO3 := Lib.hid hown
  have HR3 := Lib.hid (HR1.out.below HB3.out)
  clear hown hb3
  refine ⟨⟨⟨_, HB3.out⟩, rfl⟩, ?_⟩
  simp only [List.getElem_toArray, List.getElem_cons_succ, List.getElem_cons_zero]
  go_frame
  change tailE Try.prog _ _ [5, 6, 7] _ _
  refine tailE_op rfl rfl ?_
  refine wp_append_copy _ (.tmp 7) 23 rfl 62 j0 _ 7 72 Try.underlying23 JI.out JZ0.out JZ1.out JZ2.out rfl (by decide) rfl h.da h.ds.length h.dc (flatD h.ds) rfl (flatD_len _) (hds_news HR3.out.ds) (flatD_one _) (by have := H2.out; unfold maxLen; omega) (by have := H2.out; omega) ?_
  intro ad dcap w4 hown hb4
  simp only [List.getElem_toArray, List.getElem_cons_succ, List.getElem_cons_zero]
  go_frame
  have HB4 := Lib.hid (HB3.out.trans (hb4.mono HB3.out.size))
  have HC4 := Lib.hid (own_bel HO3.out hb4)
  have HD4 := Lib.hid hown
  clear hown hb4
  have hzb := (HB4.out.block _ (Array.getElem?_eq_some_iff.1 HZB.out).1).trans HZB.out
  have f0 : w4.cell? ⟨w.heap.size + 1, 0, none⟩ = some (.slice none 0 0) := hblk hzb 0
  have f1 : w4.cell? ⟨w.heap.size + 1, 1, none⟩ = some (.slice none 0 0) := hblk hzb 1
  have f2 := fun o => hbfz hzb o
  refine tailE_op rfl rfl ?_
  go_simp
  refine tailE_op rfl rfl ?_
  go_simp
  unfold tailE
  have z1 := setCell_same hzb 0 (.slice ac h.cs.length acap)
  have z2 := setCell_same z1 1 (.slice ad h.ds.length dcap)
  have oc := own_set (own_set HC4.out hzb (by decide) 0 (.slice ac h.cs.length acap)) z1 (by decide) 1 (.slice ad h.ds.length dcap)
  have od := own_set (own_set HD4.out hzb (by decide) 0 (.slice ac h.cs.length acap)) z1 (by decide) 1 (.slice ad h.ds.length dcap)
  have hk := (setCell_keeps w4 (w.heap.size + 1) 0 (.slice ac h.cs.length acap)).again (setCell_keeps _ (w.heap.size + 1) 1 (.slice ad h.ds.length dcap))
  have hb := keeps_below hk (HB.out.trans (HB4.out.mono HB.out.size)) (by have := HB4.out.size; have := HB.out.size; omega) (fun j hj => by omega)
  clear f0 f1 f2 hk hzb z1
  generalize (w4.setCell ⟨w.heap.size + 1, 0, none⟩ (.slice ac h.cs.length acap)).setCell ⟨w.heap.size + 1, 1, none⟩ (.slice ad h.ds.length dcap) = w9 at *
  have r0 : w9.cell? ⟨w.heap.size + 1, 0, none⟩ = some (.slice ac h.cs.length acap) := hblk z2 0
  have r1 : w9.cell? ⟨w.heap.size + 1, 1, none⟩ = some (.slice ad h.ds.length dcap) := hblk z2 1
  go_wp2_with fail
  refine bodyPost_ret (v := .agg #[.slice ac h.cs.length acap, .slice ad h.ds.length dcap]) (by simp [results, Try.results8, go_sem, r0, r1]; done) rfl ?_
  exact ⟨⟨ac, acap, h.cs, ad, dcap, h.ds⟩, rfl, rfl, rfl, ⟨hcs_ownT oc HR.out.cs.wf, hds_ownT od HR.out.ds.wf⟩, hb⟩
end Go.Proofs.Ytmagpbbjjkmbpaa
