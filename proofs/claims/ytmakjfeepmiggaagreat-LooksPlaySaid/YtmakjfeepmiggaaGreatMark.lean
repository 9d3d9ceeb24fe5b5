/-
  Marks of stripes.
-/
import Derived.Test.YtmakjfeepmiggaaGreatWorldLives
import Derived.Test.YtmakjfeepmiggaaGreatStripes
namespace Go.Proofs.YtmakjfeepmiggaaGreat
open Go.RowKit Go.Maps
set_option linter.unusedVariables false

/-- A store into a block of another type than cells' leaves the cells. -/
theorem Own.other {w0 w w' : World} {b : Nat} {s : CS} {q : Nat} {cs : Array Value} {T : TypeId} {fr : Nat × Nat} (h : Own w0 w b s) (hk : Keeps (· = q) w w') (hq : w.heap[q]? = some (.cells cs T fr)) (hlo : w0.heap.size ≤ q)
    (h1 : (T == 239) = false) (h2 : (T == 294) = false) : Own w0 w' b s := by
  obtain ⟨⟨S, hS⟩, hB⟩ := h
  refine ⟨⟨S, hS.keeps hk fun k hk c => ?_⟩, keeps_below hk hB hB.size fun k e => e ▸ hlo⟩
  subst c
  obtain ⟨mo, f, hA, rfl⟩ := hS
  rcases hk with rfl | hm | ⟨a, ha⟩
  · have := hA.hdr.symm.trans hq; simp only [Option.some.injEq, Obj.cells.injEq] at this; rw [← this.2.1] at h1; simp at h1
  · obtain ⟨⟨D, ⟨es, cl, hb, _⟩, _⟩, _⟩ := hA.map k hm
    have := hb.symm.trans hq; cases this
  · have := (hA.ptr a k ha).1.symm.trans hq; simp only [wordC, Option.some.injEq, Obj.cells.injEq] at this; rw [← this.2.1] at h2; simp at h2
theorem Wld.other {w0 w w' : World} {wb cb : Nat} {c : Conf} {s : CS} {q : Nat} {cs : Array Value} {T : TypeId} {fr : Nat × Nat} (h : Wld w0 w wb cb c s) (hk : Keeps (· = q) w w') (hq : w.heap[q]? = some (.cells cs T fr)) (hlo : w0.heap.size ≤ q)
    (h1 : (T == 239) = false) (h2 : (T == 294) = false) (h3 : (T == 117) = false) : Wld w0 w' wb cb c s := by
  obtain ⟨ib, nb, tk, hh, hb⟩ := h.blk
  refine ⟨h.own.other hk hq hlo h1 h2, ib, nb, tk, hh, (hk.block wb (Array.getElem?_eq_some_iff.1 hb).1 fun c => ?_).trans hb⟩
  subst c
  have := hb.symm.trans hq; simp only [Option.some.injEq, Obj.cells.injEq] at this; rw [← this.2.1] at h3; simp at h3

/-- Addresses that are left, without room behind them. -/
def Sl (w : World) (v : Value) (xs : List Int) : Prop :=
  (v = .slice none 0 0 ∧ xs = []) ∨ ∃ g off cur, v = .slice (some ⟨g, off, none⟩) xs.length xs.length ∧ w.heap[g]? = some (.cells cur 39 (0, 0)) ∧ xs.length ≤ maxLen ∧ (cur.toList.drop off).take xs.length = cu xs
theorem Adr.sl {w : World} {base : Nat} {v : Value} {xs : List Int} (h : Adr w base v xs) : Sl w v xs := by
  rcases h with h | ⟨g, cur, rfl, h1, h2, h3, h4⟩
  · exact .inl h
  · exact .inr ⟨g, 0, cur, rfl, h2, h3, by simpa using h4⟩
theorem Sl.keep {w w' : World} {v : Value} {xs : List Int} (h : Sl w v xs) (hb : Below w.heap.size w w') : Sl w' v xs := by
  rcases h with h | ⟨g, off, cur, rfl, h1, h2⟩
  · exact .inl h
  · exact .inr ⟨g, off, cur, rfl, (hb.block g (Array.getElem?_eq_some_iff.1 h1).1).trans h1, h2⟩
theorem Sl.rest {w w' : World} {v : Value} {xs : List Int} (h : Sl w v xs) (hb : Rest w w') : Sl w' v xs := by
  rcases h with h | ⟨g, off, cur, rfl, h1, h2⟩
  · exact .inl h
  · exact .inr ⟨g, off, cur, rfl, hb _ _ _ _ h1 rfl rfl, h2⟩
theorem Sl.len {w : World} {v : Value} {xs : List Int} (h : Sl w v xs) : ∃ a, v = .slice a xs.length xs.length ∧ xs.length ≤ maxLen := by
  rcases h with ⟨rfl, rfl⟩ | ⟨g, off, cur, rfl, h1, h2, h3⟩
  · exact ⟨none, rfl, Nat.zero_le _⟩
  · exact ⟨_, rfl, h2⟩
theorem Sl.at0 {w : World} {v : Value} {a : Int} {r : List Int} (h : Sl w v (a :: r)) : ∃ g off, v = .slice (some ⟨g, off, none⟩) (r.length + 1) (r.length + 1) ∧ w.cell? ⟨g, off, none⟩ = some (.int .u64 a) ∧ r.length + 1 ≤ maxLen ∧
    (∃ cur, w.heap[g]? = some (.cells cur 39 (0, 0))) ∧ Sl w (.slice (some ⟨g, off + 1, none⟩) r.length r.length) r := by
  rcases h with ⟨rfl, h⟩ | ⟨g, off, cur, rfl, h1, h2, h3⟩
  · cases h
  · simp only [List.length_cons] at h2 h3
    have hd : ∃ t, cur.toList.drop off = Value.int .u64 a :: t ∧ t.take r.length = cu r := by
      cases hh : cur.toList.drop off with
      | nil => rw [hh] at h3; simp [cu] at h3
      | cons x t =>
        rw [hh] at h3
        simp only [List.take_succ_cons, cu, List.map_cons, List.cons.injEq] at h3
        exact ⟨t, by rw [h3.1], h3.2⟩
    obtain ⟨t, ht, h4⟩ := hd
    have hc : cur[off]? = some (.int .u64 a) := by
      have : (cur.toList.drop off)[0]? = some (.int .u64 a) := by rw [ht]; rfl
      rw [List.getElem?_drop] at this
      simpa using this
    refine ⟨g, off, rfl, by simp [World.cell?, h1, hc], h2, ⟨cur, h1⟩, .inr ⟨g, off + 1, cur, rfl, h1, by omega, ?_⟩⟩
    have : cur.toList.drop (off + 1) = t := by rw [← List.drop_drop, ht]; rfl
    rw [this]; exact h4

theorem Sl.tail {w : World} {g off : Nat} {r : List Int} (h : ∃ cur, w.heap[g]? = some (.cells cur 39 (0, 0))) (hs : Sl w (.slice (some ⟨g, off + 1, none⟩) r.length r.length) r) : Sl w (.slice (if r = [] then some ⟨g, off, none⟩ else some ⟨g, off + 1, none⟩) r.length r.length) r := by
  obtain ⟨cur, hc⟩ := h
  split
  · rename_i hr; subst hr
    exact .inr ⟨g, off, cur, rfl, hc, Nat.zero_le _, by simp [cu]⟩
  · exact hs
/-- A Mark. -/
def MarkAt (w : World) (mb : Nat) (xs : List Int) : Prop := ∃ v, w.heap[mb]? = some (.cells #[v] 358 (0, 0)) ∧ Sl w v xs
theorem MarkAt.keep {w w' : World} {mb : Nat} {xs : List Int} (h : MarkAt w mb xs) (hb : Below w.heap.size w w') : MarkAt w' mb xs := by
  obtain ⟨v, h1, h2⟩ := h
  exact ⟨v, (hb.block mb (Array.getElem?_eq_some_iff.1 h1).1).trans h1, h2.keep hb⟩
theorem MarkAt.rest {w w' : World} {mb : Nat} {xs : List Int} (h : MarkAt w mb xs) (hb : Rest w w') : MarkAt w' mb xs := by
  obtain ⟨v, h1, h2⟩ := h
  exact ⟨v, hb _ _ _ _ h1 rfl rfl, h2.rest hb⟩

theorem conf_b' {a b : Bool} (h : a = b) : Ending.returned (.bool a) = .returned (.bool b) := by rw [h]
theorem newmark_any (l : List (Int × Int)) (ao : Option Addr) (cap : Nat) (w : World) (h : Plc w ao cap l) (hsz : l.length ≤ 1000000) : Calls Tryz.prog 251 #[.slice ao l.length cap] w
    fun e w' => ∃ mb, e = .returned (.pointer (some ⟨mb, 0, none⟩)) ∧ MarkAt w' mb (vof l) ∧ w.heap.size ≤ mb ∧ Below w.heap.size w w' := by
  have ho := of_any l ao cap w h hsz
  clear h hsz
  go_enter Tryz.func251, Tryz.ntmps251
  go_wp2_with (go_at_call 94; refine ho.mono ?_; rintro e w1 ⟨v, rfl, h1, h2⟩; obtain ⟨a1, hv, -⟩ := h1.sl.len; subst hv)
  go_ret
  exact ⟨_, rfl, ⟨_, heap_alloc_new w1 _, h1.sl.keep (below_alloc _ _)⟩, h2.size, h2.trans ((below_alloc _ _).mono h2.size)⟩

theorem over_any {w : World} {mb : Nat} {xs : List Int} (h : MarkAt w mb xs) : Calls Tryz.prog 280 #[.pointer (some ⟨mb, 0, none⟩)] w fun e w' => e = .returned (.bool (decide (xs = []))) ∧ w' = w := by
  obtain ⟨v, h1, h2⟩ := h
  obtain ⟨a, rfl, hm⟩ := h2.len
  have c0 : w.cell? ⟨mb, 0, none⟩ = some (.slice a xs.length xs.length) := by simp [World.cell?, h1]
  unfold maxLen at hm
  have hd : ((xs.length : Int) == 0) = decide (xs = []) := by cases xs <;> simp; omega
  generalize decide (xs = []) = d at *
  clear h1 h2
  go_enter Tryz.func280, Tryz.ntmps280
  go_wp2
  go_ret
  exact ⟨rfl, rfl⟩

set_option maxHeartbeats 1000000 in
theorem mstep_any {w0 w : World} {wb cb mb : Nat} {c : Conf} {s : CS} {a : Int} {r : List Int} (h : Wld w0 w wb cb c s) (hr : s.room) (hM : MarkAt w mb (a :: r)) (hlo : w0.heap.size ≤ mb) (ha : (Lit.int .u64 a).wf = true) :
    Calls Tryz.prog 281 #[.pointer (some ⟨mb, 0, none⟩), .pointer (some ⟨wb, 0, none⟩)] w fun e w' => e = .returned (.bool (decide (r = []))) ∧ Wld w0 w' wb cb c (s.acc 4 a (wu (s.val a + 1))) ∧ MarkAt w' mb r ∧
      (∀ (k : Nat) (cs : Array Value) (T : TypeId) (fr : Nat × Nat), w.heap[k]? = some (Obj.cells cs T fr) → (T == 239) = false → (T == 294) = false → k ≠ mb → w'.heap[k]? = some (Obj.cells cs T fr)) := by
  have ho := over_any hM
  rw [show decide (a :: r = []) = false from rfl] at ho
  obtain ⟨v, hm, hs⟩ := hM
  obtain ⟨g, off, rfl, q0, hml, hg, ht⟩ := hs.at0
  have HT := Lib.hid (Sl.tail hg ht)
  clear hg ht
  have m0 : w.cell? ⟨mb, 0, none⟩ = some (.slice (some ⟨g, off, none⟩) (r.length + 1) (r.length + 1)) := by simp [World.cell?, hm]
  have c0 := h.cell.1
  have x0 := fun st : ExtW w => st.cell c0
  have x1 := fun st : ExtW w => st.cell m0
  have x2 := fun st : ExtW w => st.cell q0
  unfold maxLen at hml
  have H := Lib.hid h; have HR := Lib.hid hr; have HM := Lib.hid hm; have HS := Lib.hid hs; have HA := Lib.hid ha
  clear h hr hm hs ha
  go_enter Tryz.func281, Tryz.ntmps281
  go_wp2_with (go_at_call 280; refine ho.mono ?_; rintro e w1 ⟨rfl, hw⟩; obtain rfl := hw.symm; clear ho)
  refine wp_region_ext_tail 10 (by kernel_rfl) (by kernel_rfl) ?_
  simp only [List.take_succ_cons, List.take_zero, List.drop_succ_cons, List.drop_zero]
  repeat (go_big_quiet_step (fail))
  refine wpQuiet_nil ?_
  rintro W ⟨⟨W2, hW⟩, rfl⟩
  clear x0 x1 x2 c0 m0 q0
  have HW := Lib.hid hW
  have h1 := H.out.keep hW
  have HM1 := Lib.hid ((hW.block mb (Array.getElem?_eq_some_iff.1 HM.out).1).trans HM.out); have HS1 := Lib.hid (HS.out.keep hW)
  clear hW
  go_wp2_with (go_at_call 282; refine (h1.add HR.out a HA.out 1).mono ?_; rintro e w2 ⟨rfl, h2, r2⟩; have HM2 := Lib.hid (r2 _ _ _ _ HM1.out rfl rfl); have HS2 := Lib.hid (HS1.out.rest r2); have H2 := Lib.hid h2; have R2 := Lib.hid r2; clear h1 h2 r2)
  have m0 : w2.cell? ⟨mb, 0, none⟩ = some (.slice (some ⟨g, off, none⟩) (r.length + 1) (r.length + 1)) := by have := HM2.out; simp [World.cell?, this]
  have m1 : w2.frozen? ⟨mb, 0, none⟩ = false := by have := HM2.out; simp [World.frozen?, this]
  have x1 := fun st : ExtW w2 => st.cell m0
  refine wp_region_ext_tail 18 (by kernel_rfl) (by kernel_rfl) ?_
  simp only [List.take_succ_cons, List.take_zero, List.drop_succ_cons, List.drop_zero]
  repeat (go_big_quiet_step (fail))
  refine wpQuiet_nil ?_
  rintro W3 ⟨⟨W4, hW4⟩, rfl⟩
  clear x1
  obtain ⟨ad, had⟩ : ∃ ad, ad = (if r = [] then some (⟨g, off, none⟩ : Addr) else some ⟨g, off + 1, none⟩) := ⟨_, rfl⟩
  have T3 := (((HT.out.keep HW.out).rest R2.out).keep hW4)
  rw [← had] at T3
  simp only [← had]
  have HT3 := Lib.hid T3
  have H3 := Lib.hid (H2.out.keep hW4)
  have HM3 := Lib.hid ((hW4.block mb (Array.getElem?_eq_some_iff.1 HM2.out).1).trans HM2.out)
  have HW4 := Lib.hid hW4
  clear T3 had hW4 m1 m0 HT HS HS1 HS2
  have m0 : W3.cell? ⟨mb, 0, none⟩ = some (.slice (some ⟨g, off, none⟩) (r.length + 1) (r.length + 1)) := by have := HM3.out; simp [World.cell?, this]
  have m1 : W3.frozen? ⟨mb, 0, none⟩ = false := by have := HM3.out; simp [World.frozen?, this]
  have hM5 : MarkAt (W3.setCell ⟨mb, 0, none⟩ (.slice ad r.length r.length)) mb r := by
    have hsame := setCell_same (o := 0) HM3.out (.slice ad r.length r.length)
    refine ⟨_, hsame, ?_⟩
    rcases HT3.out with h | ⟨g2, o2, cur, he, h1, h2⟩
    · exact .inl h
    · refine .inr ⟨g2, o2, cur, he, (Below.heap_setCell _ _ _ _ fun c => ?_).trans h1, h2⟩
      simp only at c; subst c
      have := h1.symm.trans HM3.out; simp only [Option.some.injEq, Obj.cells.injEq] at this; exact absurd this.2.1 (by decide)
  have hov := over_any hM5
  obtain ⟨d, hd⟩ : ∃ d, d = decide (r = []) := ⟨_, rfl⟩
  rw [← hd] at hov
  have HD := Lib.hid hd
  clear hd
  have HM5 := Lib.hid hM5
  clear hM5
  go_wp2_with (go_at_call 280; refine hov.mono ?_; rintro e w6 ⟨rfl, hw⟩; subst hw)
  go_ret
  refine ⟨conf_b' HD.out, H3.out.other (setCell_keeps _ _ _ _) HM3.out hlo rfl rfl rfl, HM5.out, fun k cs T fr hk h1 h2 hne => ?_⟩
  rw [Below.heap_setCell _ _ _ _ (by simpa using hne)]
  have k2 := R2.out k cs T fr ((HW.out.block k (Array.getElem?_eq_some_iff.1 hk).1).trans hk) h1 h2
  exact (HW4.out.block k (Array.getElem?_eq_some_iff.1 k2).1).trans k2
end Go.Proofs.YtmakjfeepmiggaaGreat
