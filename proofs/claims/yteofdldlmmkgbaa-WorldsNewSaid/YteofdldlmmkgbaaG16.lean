/-
  Texts of this prover, merged: RefMay, WorldsFull, WorldsGrow, WorldsNew.
-/
import Derived.Test.YteofdldlmmkgbaaG14
import Derived.Test.YteofdldlmmkgbaaG5
import Derived.Test.YteofdldlmmkgbaaG6
import Derived.Test.YteofdldlmmkgbaaG8
import Derived.Test.YteofdldlmmkgbaaG15
/-
  The document's rule of growing; what both worlds tell.
-/
namespace Go.Proofs.Yteofdldlmmkgbaa
open Go.RowKit Go.Maps
set_option linter.unusedVariables false

theorem tsize_pw (b : Int) (h : 1 ≤ b ∧ b ≤ 12) : 2 ≤ tsize b ∧ tsize b ≤ 4096 := by
  have : b = 1 ∨ b = 2 ∨ b = 3 ∨ b = 4 ∨ b = 5 ∨ b = 6 ∨ b = 7 ∨ b = 8 ∨ b = 9 ∨ b = 10 ∨ b = 11 ∨ b = 12 := by omega
  rcases this with rfl | rfl | rfl | rfl | rfl | rfl | rfl | rfl | rfl | rfl | rfl | rfl <;> decide
theorem pmay_out (f g b : Int) (h : f < 1 ∨ 12 < f ∨ b < 1 ∨ 11 < b) : pmay f g b = false := by
  have : tsize f = 0 ∨ tsize b = 0 ∨ tsize (b + 1) = 0 := by
    rcases h with h | h | h | h
    · exact .inl (tsize_out (.inl h))
    · exact .inl (tsize_out (.inr h))
    · exact .inr (.inl (tsize_out (.inl h)))
    · exact .inr (.inr (tsize_out (.inr (by omega))))
  unfold pmay
  rcases this with h | h | h <;> simp [h]
set_option maxRecDepth 10000 in
theorem rmay08_any (f g b : Int) (w : World) : Calls Try.prog 64 #[.int .i64 f, .int .i64 g, .int .i64 b] w fun e w' => e = .returned (.bool (pmay f g b)) ∧ w' = w := by
  by_cases ho : f < 1 ∨ 12 < f ∨ b < 1 ∨ 11 < b
  · rw [pmay_out f g b ho]
    by_cases h1 : f < 1
    · have d1 : decide (f < 1) = true := by simp; omega
      clear ho h1
      go_enter Try.func64, Try.ntmps64
      go_wp2
      go_ret
      exact ⟨rfl, rfl⟩
    have d1 : decide (f < 1) = false := by simp; omega
    by_cases h2 : 12 < f
    · have d2 : decide (12 < f) = true := by simp; omega
      clear ho h1 h2
      go_enter Try.func64, Try.ntmps64
      go_wp2
      go_ret
      exact ⟨rfl, rfl⟩
    have d2 : decide (12 < f) = false := by simp; omega
    by_cases h3 : b < 1
    · have d3 : decide (b < 1) = true := by simp; omega
      clear ho h1 h2 h3
      go_enter Try.func64, Try.ntmps64
      go_wp2
      go_ret
      exact ⟨rfl, rfl⟩
    have d3 : decide (b < 1) = false := by simp; omega
    have d4 : decide (11 < b) = true := by simp; omega
    clear ho h1 h2 h3
    go_enter Try.func64, Try.ntmps64
    go_wp2
    go_ret
    exact ⟨rfl, rfl⟩
  · have hf := tsize_pw f (by omega)
    have hb := tsize_pw b (by omega)
    have hb1 := tsize_pw (b + 1) (by omega)
    have d1 : decide (f < 1) = false := by simp; omega
    have d2 : decide (12 < f) = false := by simp; omega
    have d3 : decide (b < 1) = false := by simp; omega
    have d4 : decide (11 < b) = false := by simp; omega
    have hp : pmay f g b = decide (4 * (tsize b + tsize (b + 1)) ≤ 8 * max (min g 65536) (4 * tsize f)) := by
      unfold pmay
      rw [show (tsize f == 0) = false from beq_eq_false_iff_ne.2 (by omega), show (tsize b == 0) = false from beq_eq_false_iff_ne.2 (by omega), show (tsize (b + 1) == 0) = false from beq_eq_false_iff_ne.2 (by omega)]
      rfl
    have hw : wrap64 (b + 1) = b + 1 := IntWalk.wrap64_in _ (by omega)
    have hs1 := fun w => rsize_any f w
    have hs2 := fun w => rsize_any b w
    have hs3 := fun w => rsize_any (b + 1) w
    rw [hp]
    clear ho hp
    generalize tsize f = sf at *
    generalize tsize b = sb at *
    generalize tsize (b + 1) = sc at *
    by_cases h1 : 65536 < g
    · have e1 : decide (65536 < g) = true := by simp; omega
      by_cases h2 : 4 * sf < 65536
      · have e2 : decide (4 * sf < 65536) = true := by simp; omega
        have HM : Hid (max (min g 65536) (4 * sf) = 65536) := show _ = _ by omega
        clear h1
        go_enter Try.func64, Try.ntmps64
        go_wp2_with (first
          | (go_at_call 103; with_reducible refine (hs1 _).mono ?_; rintro e w1 ⟨rfl, rfl⟩)
          | (go_at_call 103; with_reducible refine (hs2 _).mono ?_; rintro e w1 ⟨rfl, rfl⟩)
          | (go_at_call 103; with_reducible refine (hs3 _).mono ?_; rintro e w1 ⟨rfl, rfl⟩))
        go_ret
        refine ⟨ret_bool ?_, rfl⟩
        rw [HM.out]; congr 1; apply propext; constructor <;> intro h <;> omega
      · have e2 : decide (4 * sf < 65536) = false := by simp; omega
        have HM : Hid (max (min g 65536) (4 * sf) = 4 * sf) := show _ = _ by omega
        clear h1
        go_enter Try.func64, Try.ntmps64
        go_wp2_with (first
          | (go_at_call 103; with_reducible refine (hs1 _).mono ?_; rintro e w1 ⟨rfl, rfl⟩)
          | (go_at_call 103; with_reducible refine (hs2 _).mono ?_; rintro e w1 ⟨rfl, rfl⟩)
          | (go_at_call 103; with_reducible refine (hs3 _).mono ?_; rintro e w1 ⟨rfl, rfl⟩))
        go_ret
        refine ⟨ret_bool ?_, rfl⟩
        rw [HM.out]; congr 1; apply propext; constructor <;> intro h <;> omega
    · have e1 : decide (65536 < g) = false := by simp; omega
      by_cases h2 : 4 * sf < g
      · have e2 : decide (4 * sf < g) = true := by simp; omega
        have HM : Hid (max (min g 65536) (4 * sf) = g) := show _ = _ by omega
        have HG : Hid (g ≤ 65536 ∧ 0 ≤ g) := ⟨by omega, by omega⟩
        go_enter Try.func64, Try.ntmps64
        go_wp2_with (first
          | (go_at_call 103; with_reducible refine (hs1 _).mono ?_; rintro e w1 ⟨rfl, rfl⟩)
          | (go_at_call 103; with_reducible refine (hs2 _).mono ?_; rintro e w1 ⟨rfl, rfl⟩)
          | (go_at_call 103; with_reducible refine (hs3 _).mono ?_; rintro e w1 ⟨rfl, rfl⟩))
        go_ret
        refine ⟨ret_bool ?_, rfl⟩
        have := HG.out
        rw [HM.out]; congr 1; apply propext; constructor <;> intro h <;> omega
      · have e2 : decide (4 * sf < g) = false := by simp; omega
        have HM : Hid (max (min g 65536) (4 * sf) = 4 * sf) := show _ = _ by omega
        clear h1
        go_enter Try.func64, Try.ntmps64
        go_wp2_with (first
          | (go_at_call 103; with_reducible refine (hs1 _).mono ?_; rintro e w1 ⟨rfl, rfl⟩)
          | (go_at_call 103; with_reducible refine (hs2 _).mono ?_; rintro e w1 ⟨rfl, rfl⟩)
          | (go_at_call 103; with_reducible refine (hs3 _).mono ?_; rintro e w1 ⟨rfl, rfl⟩))
        go_ret
        refine ⟨ret_bool ?_, rfl⟩
        rw [HM.out]; congr 1; apply propext; constructor <;> intro h <;> omega
theorem rgrows_any {w0 w : World} {B : WB} {V : WV} {x : RS} (h : RD w0 w B V x) : Calls Try.prog 16 #[.pointer (some ⟨B.wb, 0, none⟩)] w fun e w' => e = .returned (.bool (asNow (rlook x.l 2) == 0 && pmay V.c.bits V.c.budget (asOld (rlook x.l 2)))) ∧ Below w.heap.size w w' := by
  have hp := rwpeek h 2
  have hb := wf_bd (rlook_wf' h 2)
  have c3 := (h.cell 3).trans (val_at B V h.tkl).2.2.2.1
  have c4 := (h.cell 4).trans (val_at B V h.tkl).2.2.2.2.1
  have ha := fun w => ras_any (rlook x.l 2) hb.1 hb.2 w
  have z3 := fun st : ExtW w => st.cell c3
  have z4 := fun st : ExtW w => st.cell c4
  clear h hb c3 c4
  generalize rlook x.l 2 = v at *
  generalize asOld v = o at *
  generalize asNow v = n at *
  have hm := fun st : ExtW w => (rmay08_any V.c.bits V.c.budget o st.val).mono fun e w' (h : _ ∧ _) => And.intro h.1 h.2.symm
  generalize pmay V.c.bits V.c.budget o = m at *
  cases hn : (n == 0)
  all_goals
    go_enter Try.func16, Try.ntmps16
    go_upto_region 2 with (first
      | (go_at_call 63; refine hp.mono ?_; rintro e w1 ⟨rfl, hw⟩; obtain rfl := hw.symm; clear hp)
      | (go_at_call 62; refine (ha _).mono ?_; rintro e w1 ⟨rfl, hw⟩; obtain rfl := hw.symm))
    refine wp_region_ext (by kernel_rfl) (by kernel_rfl) ?_
    repeat (go_big_quiet_step ((go_at_call 64; with_reducible refine calls_ext_same (hm _))))
    refine wpQuiet_nil ?_
    rintro W2 ⟨⟨W3, hW⟩, rfl⟩
    clear z3 z4 hm
    go_wp2
    go_ret
    exact ⟨rfl, hW⟩
end Go.Proofs.Yteofdldlmmkgbaa

/-
  WorldsFull.
-/
namespace Go.Proofs.Yteofdldlmmkgbaa
open Go.RowKit Go.Maps
set_option linter.unusedVariables false

theorem okWide_struct {P : Program} {w : World} {r : Reach} {base : Nat} {t : TypeId} {fs : Array Field} {v : Value} (ht : P.underlying t = some (.struct fs)) (h : Value.okWide P w r base t v) : ∃ cs : Array Value, v = .agg cs := by
  simp only [Value.okWide, ht] at h
  obtain ⟨cs, h1, _⟩ := h
  exact ⟨cs, h1⟩
theorem leaves_conf : leaves Try.prog 4 23 = some [.int .i64, .int .i64, .int .i64, .int .i64, .int .i64] := by kernel_rfl
set_option maxRecDepth 10000 in
theorem conf_of {H : Type} {enc : TypeId × Value → H} {w : World} {base b2 n : Nat} {spare : Nat → Bool} {held : Bool} {v : Value} {d : DataW H} {p : List MemPlace} (k : DataW.Trod enc Try.prog w base spare held 23 v d p)
    (o : Value.okWide Try.prog w .any b2 23 v) : ∃ c : Conf, v = .agg #[.int .i64 c.bits, .int .i64 c.budget, .int .i64 c.tries, .int .i64 c.quantum, .int .i64 c.way] ∧ c.wf := by
  obtain ⟨cs, rfl⟩ := okWide_struct Try.underlying23 o
  have h := opened leaves_conf k
  obtain ⟨c0, r, e0, g0, h⟩ := allHold_cons h
  obtain ⟨c1, r, rfl, g1, h⟩ := allHold_cons h
  obtain ⟨c2, r, rfl, g2, h⟩ := allHold_cons h
  obtain ⟨c3, r, rfl, g3, h⟩ := allHold_cons h
  obtain ⟨c4, r, rfl, g4, h⟩ := allHold_cons h
  obtain rfl := allHold_nil h
  obtain ⟨z0, rfl, h0⟩ := holds_int g0
  obtain ⟨z1, rfl, h1⟩ := holds_int g1
  obtain ⟨z2, rfl, h2⟩ := holds_int g2
  obtain ⟨z3, rfl, h3⟩ := holds_int g3
  obtain ⟨z4, rfl, h4⟩ := holds_int g4
  obtain rfl : cs = #[.int .i64 z0, .int .i64 z1, .int .i64 z2, .int .i64 z3, .int .i64 z4] := by
    have : cs.toList = _ := e0
    rw [← Array.toArray_toList (xs := cs), this]
  exact ⟨⟨z0, z1, z2, z3, z4⟩, rfl, h0, h1, h2, h3, h4⟩

end Go.Proofs.Yteofdldlmmkgbaa

/-
  WorldsGrow.
-/
namespace Go.Proofs.Yteofdldlmmkgbaa
open Go.RowKit Go.Maps
set_option linter.unusedVariables false

theorem as_free (b : Int) (h : 1 ≤ b ∧ b ≤ 12) : asOld (tword b 0) = b ∧ asNow (tword b 0) = 0 := by
  have : b = 1 ∨ b = 2 ∨ b = 3 ∨ b = 4 ∨ b = 5 ∨ b = 6 ∨ b = 7 ∨ b = 8 ∨ b = 9 ∨ b = 10 ∨ b = 11 ∨ b = 12 := by omega
  rcases this with rfl | rfl | rfl | rfl | rfl | rfl | rfl | rfl | rfl | rfl | rfl | rfl <;> decide
theorem as_both (b : Int) (h : 1 ≤ b ∧ b ≤ 11) : asOld (tword b (b + 1)) = b ∧ asNow (tword b (b + 1)) = b + 1 := by
  have : b = 1 ∨ b = 2 ∨ b = 3 ∨ b = 4 ∨ b = 5 ∨ b = 6 ∨ b = 7 ∨ b = 8 ∨ b = 9 ∨ b = 10 ∨ b = 11 := by omega
  rcases this with rfl | rfl | rfl | rfl | rfl | rfl | rfl | rfl | rfl | rfl | rfl <;> decide
theorem tsize_pos (b : Int) (h : 1 ≤ b ∧ b ≤ 12) : (tsize b == 0) = false := by
  have : b = 1 ∨ b = 2 ∨ b = 3 ∨ b = 4 ∨ b = 5 ∨ b = 6 ∨ b = 7 ∨ b = 8 ∨ b = 9 ∨ b = 10 ∨ b = 11 ∨ b = 12 := by omega
  rcases this with rfl | rfl | rfl | rfl | rfl | rfl | rfl | rfl | rfl | rfl | rfl | rfl <;> decide
theorem spots_free (b : Int) (h : 1 ≤ b ∧ b ≤ 12) : spots (tword b 0) = 4 * tsize b := by
  unfold spots; rw [(as_free b h).1, (as_free b h).2]; simp [tsize]
theorem spots_both (b : Int) (h : 1 ≤ b ∧ b ≤ 11) : spots (tword b (b + 1)) = 4 * (tsize b + tsize (b + 1)) := by
  unfold spots; rw [(as_both b h).1, (as_both b h).2]
theorem pmay_is (f g b : Int) (hf : 1 ≤ f ∧ f ≤ 12) (hg : 1 ≤ g ∧ g ≤ 65536) (hb : 1 ≤ b ∧ b ≤ 12) : pmay f g b = (decide (b < 12) && decide (spots (tword b (b + 1)) ≤ 8 * max g (spots (tword f 0)))) := by
  rw [spots_free f hf]
  unfold pmay
  rw [tsize_pos f hf, tsize_pos b hb, show min g 65536 = g by omega]
  by_cases h : b < 12
  · rw [spots_both b ⟨hb.1, by omega⟩, tsize_pos (b + 1) (by omega), decide_eq_true h]; rfl
  · obtain rfl : b = 12 := by omega
    rfl

theorem grows_free {w0 w : World} {wb cb : Nat} {c : Conf} {s : CS} (h : Wld w0 w wb cb c s) (hg : (Lit.int .i64 c.budget).wf = true) (b : Int) (hb : 1 ≤ b ∧ b ≤ 12) (hv : s.val 2 = tword b 0) : Calls Try.prog 15 #[.pointer (some ⟨wb, 0, none⟩)] w fun e w' => e = .returned (.bool (pmay c.bits c.budget b)) ∧ Below w.heap.size w w' := by
  have := grows_any h hg
  rw [hv, (as_free b hb).1, (as_free b hb).2] at this
  exact this
theorem grows_both {w0 w : World} {wb cb : Nat} {c : Conf} {s : CS} (h : Wld w0 w wb cb c s) (hg : (Lit.int .i64 c.budget).wf = true) (b : Int) (hb : 1 ≤ b ∧ b ≤ 11) (hv : s.val 2 = tword b (b + 1)) : Calls Try.prog 15 #[.pointer (some ⟨wb, 0, none⟩)] w fun e w' => e = .returned (.bool false) ∧ Below w.heap.size w w' := by
  have := grows_any h hg
  rw [hv, (as_both b hb).1, (as_both b hb).2, show ((b + 1) == 0) = false from beq_eq_false_iff_ne.2 (by omega)] at this
  exact this

end Go.Proofs.Yteofdldlmmkgbaa

/-
  WorldsNew: the walk.
-/
namespace Go.Proofs.Yteofdldlmmkgbaa
open Go.RowKit Go.Maps
set_option linter.unusedVariables false

set_option maxRecDepth 10000 in
theorem rnew10_bad (c : Conf) (hc : c.ok = false) (w : World) : Calls Try.prog 9 #[.agg #[.int .i64 c.bits, .int .i64 c.budget, .int .i64 c.tries, .int .i64 c.quantum, .int .i64 c.way]] w fun e w' => e = .returned (.tuple #[.pointer none, .int .i64 1]) ∧ Below w.heap.size w w' := by
  have hm := rmay_any c
  rw [hc] at hm
  clear hc
  go_enter Try.func9, Try.ntmps9
  have hB0 := below_alloc' w (.cells #[.int .i64 c.bits, .int .i64 c.budget, .int .i64 c.tries, .int .i64 c.quantum, .int .i64 c.way] 31)
  go_wp2_with (go_at_call 12; refine (hm _).mono ?_; rintro e w1 ⟨rfl, b1⟩)
  go_ret2
  exact ⟨rfl, hB0.trans (b1.mono hB0.size)⟩

set_option maxRecDepth 10000 in
set_option maxHeartbeats 4000000 in
theorem wnew_law (c : Conf) (w : World) : Calls Try.prog 3 #[.agg #[.int .i64 c.bits, .int .i64 c.budget, .int .i64 c.tries, .int .i64 c.quantum, .int .i64 c.way]] w fun e w' => e = .returned (.bool true) ∧ Below w.heap.size w w' := by
  have hB := below_alloc w (.cells #[.int .i64 c.bits, .int .i64 c.budget, .int .i64 c.tries, .int .i64 c.quantum, .int .i64 c.way] 23)
  have z := heap_alloc_new w (.cells #[.int .i64 c.bits, .int .i64 c.budget, .int .i64 c.tries, .int .i64 c.quantum, .int .i64 c.way] 23)
  have HB := Lib.hid hB; have HZ := Lib.hid z
  clear hB z
  cases hc : c.ok
  · have HC := Lib.hid hc
    clear hc
    go_enter Try.func3, Try.ntmps3
    go_upto_region 1 with (fail)
    change Code.wp _ _ _ _ (w.alloc (.cells #[.int .i64 c.bits, .int .i64 c.budget, .int .i64 c.tries, .int .i64 c.quantum, .int .i64 c.way] 23))
    generalize w.alloc (.cells #[.int .i64 c.bits, .int .i64 c.budget, .int .i64 c.tries, .int .i64 c.quantum, .int .i64 c.way] 23) = w1 at *
    have d0 := hcell HZ.out 0; have d1 := hcell HZ.out 1; have d2 := hcell HZ.out 2; have d3 := hcell HZ.out 3; have d4 := hcell HZ.out 4
    go_upto_region 2 with (go_at_call 8; refine (wnew_bad c HC.out w1).mono ?_; rintro e w2 ⟨rfl, b2⟩; have HB2 := Lib.hid b2; have hz2 := (b2.block _ (Array.getElem?_eq_some_iff.1 HZ.out).1).trans HZ.out; clear d0 d1 d2 d3 d4 b2; have d0 := hcell hz2 0; have d1 := hcell hz2 1; have d2 := hcell hz2 2; have d3 := hcell hz2 3; have d4 := hcell hz2 4; have HZ2 := Lib.hid hz2; clear hz2)
    go_upto_region 3 with (first
      | (go_at_call 10; refine (rother_any c _).mono ?_; rintro e w3 ⟨rfl, b3⟩; have HB3 := Lib.hid b3; clear b3)
      | (go_at_call 9; refine (rnew10_bad c HC.out _).mono ?_; rintro e w4 ⟨rfl, b4⟩; have HB4 := Lib.hid (HB3.out.trans (b4.mono HB3.out.size)); clear b4 d0 d1 d2 d3 d4))
    have hz4 := (HB4.out.block _ (Array.getElem?_eq_some_iff.1 HZ2.out).1).trans HZ2.out
    have HBA : Hid (Below w.heap.size w w4) := (HB.out.trans (HB2.out.mono HB.out.size)).trans (HB4.out.mono (Nat.le_trans HB.out.size HB2.out.size))
    have z0 := fun st : ExtW w4 => st.cell (hcell hz4 0)
    have z1 := fun st : ExtW w4 => st.cell (hcell hz4 1)
    have z2 := fun st : ExtW w4 => st.cell (hcell hz4 2)
    have z3 := fun st : ExtW w4 => st.cell (hcell hz4 3)
    have z4 := fun st : ExtW w4 => st.cell (hcell hz4 4)
    have m1 := fun st : ExtW w4 => wmay_any c st.val
    have m2 := fun st : ExtW w4 => rmay_any c st.val
    have m3 := fun st : ExtW w4 => rother_any c st.val
    rw [HC.out] at m1 m2
    clear hz4 HZ HZ2 HB HB2 HB3 HB4 HC
    refine wp_region_ext (by kernel_rfl) (by kernel_rfl) ?_
    repeat (go_big_quiet_step (first
      | (go_at_call 11; with_reducible refine calls_ext (m1 _))
      | (go_at_call 12; with_reducible refine calls_ext (m2 _))
      | (go_at_call 10; with_reducible refine calls_ext (m3 _))))
    refine wpQuiet_nil ?_
    rintro W2 ⟨⟨W3, hW⟩, rfl⟩
    clear z0 z1 z2 z3 z4 m1 m2 m3
    go_wp2_with (go_at_call 13; refine (lives10 _).mono ?_; rintro e w7 ⟨rfl, b7⟩)
    go_ret
    exact ⟨rfl, (HBA.out.trans (hW.mono HBA.out.size)).trans (b7.mono (Nat.le_trans HBA.out.size hW.size))⟩
  · have HC := Lib.hid hc
    obtain ⟨htw, hb1, hb12⟩ := tword_bits hc
    have HTW := Lib.hid htw
    have hbud : 1 ≤ c.budget ∧ c.budget ≤ 65536 := by simp only [Conf.ok, Bool.and_eq_true, decide_eq_true_eq] at hc; omega
    have HBD := Lib.hid hbud
    clear hc htw hbud
    go_enter Try.func3, Try.ntmps3
    go_upto_region 1 with (fail)
    change Code.wp _ _ _ _ (w.alloc (.cells #[.int .i64 c.bits, .int .i64 c.budget, .int .i64 c.tries, .int .i64 c.quantum, .int .i64 c.way] 23))
    generalize w.alloc (.cells #[.int .i64 c.bits, .int .i64 c.budget, .int .i64 c.tries, .int .i64 c.quantum, .int .i64 c.way] 23) = w1 at *
    have d0 := hcell HZ.out 0; have d1 := hcell HZ.out 1; have d2 := hcell HZ.out 2; have d3 := hcell HZ.out 3; have d4 := hcell HZ.out 4
    go_upto_region 2 with (go_at_call 8; refine (wnew_ok c HC.out w1).mono ?_; rintro e w2 ⟨wb, cb, ib, nb, rfl, g1, g2, g3, g4, g5, g6, g7⟩; have HW2 := Lib.hid (ws_of (Below.refl _ w1) g1 g2 g3 g4 g5 g6 g7); have hz2 := (g3.below.block _ (Array.getElem?_eq_some_iff.1 HZ.out).1).trans HZ.out; clear d0 d1 d2 d3 d4 g1 g2 g3 g4 g5 g6 g7; have d0 := hcell hz2 0; have d1 := hcell hz2 1; have d2 := hcell hz2 2; have d3 := hcell hz2 3; have d4 := hcell hz2 4; have HZ2 := Lib.hid hz2; clear hz2)
    go_upto_region 3 with (first
      | (go_at_call 10; refine (rother_any c _).mono ?_; rintro e w3 ⟨rfl, b3⟩; have HB3 := Lib.hid b3; clear b3)
      | (go_at_call 9; refine (rnew10_any c HC.out w3).mono ?_; rintro e w4 ⟨rb, cr, rib, rnb, rfl, hR, b4⟩; have HB4 := Lib.hid (HB3.out.trans (b4.mono HB3.out.size)); have HR4 := Lib.hid (rd_of hR (HW2.out.below.trans (HB3.out.mono HW2.out.below.size)) b4); clear b4 hR d0 d1 d2 d3 d4))
    have hpr : Pr w1 w4 ⟨wb, cb, ib, nb⟩ ⟨rb, cr, rib, rnb⟩ (v0 c) (CS.init [(2, c.bits)]) ⟨rfold [(2, c.bits)], 0, 0, 0, 0, 0⟩ := by
      have hws := HW2.out.keep HB4.out
      rw [HTW.out] at hws
      exact ⟨hws, HR4.out, init_one _ (by omega)⟩
    have hfar := init_far1 c.bits
    have hz4 := (HB4.out.block _ (Array.getElem?_eq_some_iff.1 HZ2.out).1).trans HZ2.out
    have hv2 : (CS.init [(2, c.bits)]).val 2 = c.bits := by show upd (fun _ => 0) 2 c.bits 2 = c.bits; exact upd_same _ _ _
    have hv6 : (CS.init [(2, c.bits)]).val 6 = 0 := by show upd (fun _ => 0) 2 c.bits 6 = 0; exact upd_other _ (by decide) _
    have has : asOld c.bits = c.bits ∧ asNow c.bits = 0 := by have := as_free c.bits ⟨hb1, hb12⟩; rw [HTW.out] at this; exact this
    generalize CS.init [(2, c.bits)] = s at *
    generalize (⟨rfold [(2, c.bits)], 0, 0, 0, 0, 0⟩ : RS) = x at *
    obtain ⟨B, hBe⟩ : ∃ B : WB, B = ⟨wb, cb, ib, nb⟩ := ⟨_, rfl⟩
    obtain ⟨R, hRe⟩ : ∃ R : WB, R = ⟨rb, cr, rib, rnb⟩ := ⟨_, rfl⟩
    rw [← hBe, ← hRe] at hpr
    have ewb : wb = B.wb := by rw [hBe]
    have erb : rb = R.wb := by rw [hRe]
    subst ewb erb
    have HPR := Lib.hid hpr; have HFAR := Lib.hid hfar; have HZ4 := Lib.hid hz4; have HV2 := Lib.hid hv2; have HV6 := Lib.hid hv6; have HAS := Lib.hid has
    have HBA : Hid (Below w.heap.size w w1) := HB.out
    have m1 := fun st : ExtW w4 => wmay_any c st.val
    have m2 := fun st : ExtW w4 => rmay_any c st.val
    have m3 := fun st : ExtW w4 => rother_any c st.val
    rw [HC.out] at m1 m2
    have z0 := fun st : ExtW w4 => st.cell (hcell hz4 0)
    have z1 := fun st : ExtW w4 => st.cell (hcell hz4 1)
    have z2 := fun st : ExtW w4 => st.cell (hcell hz4 2)
    have z3 := fun st : ExtW w4 => st.cell (hcell hz4 3)
    have z4 := fun st : ExtW w4 => st.cell (hcell hz4 4)
    clear hpr hfar hz4 HZ HZ2 HB HB3 HB4 HW2 HR4 hBe hRe hv2 hv6 has HTW
    refine wp_region_ext (by kernel_rfl) (by kernel_rfl) ?_
    repeat (go_big_quiet_step (first
      | (go_at_call 11; with_reducible refine calls_ext (m1 _))
      | (go_at_call 12; with_reducible refine calls_ext (m2 _))
      | (go_at_call 10; with_reducible refine calls_ext (m3 _))))
    refine wpQuiet_nil ?_
    rintro W2 ⟨⟨W3, hW⟩, rfl⟩
    clear z0 z1 z2 z3 z4 m1 m2 m3
    have H5 := Lib.hid (HPR.out.keep hW)
    have hz5 := (hW.block _ (Array.getElem?_eq_some_iff.1 HZ4.out).1).trans HZ4.out
    have z0 := fun st : ExtW W2 => st.cell (hcell hz5 0)
    have z1 := fun st : ExtW W2 => st.cell (hcell hz5 1)
    have z2 := fun st : ExtW W2 => st.cell (hcell hz5 2)
    have z3 := fun st : ExtW W2 => st.cell (hcell hz5 3)
    have z4 := fun st : ExtW W2 => st.cell (hcell hz5 4)
    have y0 : ∀ st : ExtW W2, st.val.cell? ⟨B.wb, 3, none⟩ = some (.int .i64 c.bits) := fun st => st.cell ((H5.out.ws.cell 3).trans rfl)
    have y1 : ∀ st : ExtW W2, st.val.cell? ⟨B.wb, 4, none⟩ = some (.int .i64 c.budget) := fun st => st.cell ((H5.out.ws.cell 4).trans rfl)
    have y2 : ∀ st : ExtW W2, st.val.cell? ⟨B.wb, 5, none⟩ = some (.int .i64 c.tries) := fun st => st.cell ((H5.out.ws.cell 5).trans rfl)
    have y3 : ∀ st : ExtW W2, st.val.cell? ⟨B.wb, 6, none⟩ = some (.int .i64 c.quantum) := fun st => st.cell ((H5.out.ws.cell 6).trans rfl)
    have y4 : ∀ st : ExtW W2, st.val.cell? ⟨B.wb, 7, none⟩ = some (.int .i64 c.way) := fun st => st.cell ((H5.out.ws.cell 7).trans rfl)
    have n1 := fun st : ExtW W2 => psall_any (H5.out.keep st.below) rfl (Nat.zero_le _) (by have := HFAR.out.1; omega)
    have n2 := fun st : ExtW W2 => grows_any (H5.out.keep st.below).ws.wld (i64_small _ (by have := HBD.out; show 0 ≤ c.budget ∧ c.budget < 1000000; omega))
    have n3 := fun st : ExtW W2 => rgrows_any (H5.out.keep st.below).rd
    have n4 : ∀ st : ExtW W2, Calls Try.prog 17 #[.pointer (some ⟨B.wb, 0, none⟩)] st.val fun e w' => e = .returned (.bool (decide (c.budget ≤ s.val 6))) ∧ Below st.val.heap.size st.val w' := fun st => full_any (H5.out.keep st.below).ws.wld HBD.out
    rw [HV6.out, show decide (c.budget ≤ 0) = false by have := HBD.out; simp; omega] at n4
    rw [← congrFun HPR.out.al.val 2] at n3
    rw [HV2.out, HAS.out.1, HAS.out.2] at n2 n3
    have n2 : ∀ st : ExtW W2, Calls Try.prog 15 #[.pointer (some ⟨B.wb, 0, none⟩)] st.val fun e w' => e = .returned (.bool (pmay c.bits c.budget c.bits)) ∧ Below st.val.heap.size st.val w' := n2
    have n3 : ∀ st : ExtW W2, Calls Try.prog 16 #[.pointer (some ⟨R.wb, 0, none⟩)] st.val fun e w' => e = .returned (.bool (pmay c.bits c.budget c.bits)) ∧ Below st.val.heap.size st.val w' := n3
    have n5 := fun st : ExtW W2 => lives10 st.val
    generalize pmay c.bits c.budget c.bits = gm at *
    clear hz5 hb1 hb12
    go_upto_region 7 with (fail)
    refine wp_region_ext (by kernel_rfl) (by kernel_rfl) ?_
    repeat (go_big_quiet_step (first
      | (go_at_call 14; with_reducible refine calls_ext (n1 _))
      | (go_at_call 15; with_reducible refine calls_ext (n2 _))
      | (go_at_call 16; with_reducible refine calls_ext (n3 _))
      | (go_at_call 17; with_reducible refine calls_ext (n4 _))
      | (go_at_call 13; with_reducible refine calls_ext (n5 _))))
    refine wpQuiet_nil ?_
    rintro W4 ⟨⟨W5, hW5⟩, rfl⟩
    clear z0 z1 z2 z3 z4 y0 y1 y2 y3 y4 n1 n2 n3 n4 n5
    go_wp2
    go_ret
    exact ⟨rfl, HBA.out.trans ((H5.out.ws.below.trans (hW5.mono H5.out.ws.below.size)).mono HBA.out.size)⟩
set_option maxRecDepth 10000 in
theorem walkWorldsNew {H : Type} (w : World) (enc : TypeId × Value → H) (base : Nat) (v : Value) (d : DataW H) (p : List MemPlace) (k : DataW.Trod enc Try.prog w 0 (fun _ => true) true 23 v d p) (o : Value.okWide Try.prog w .any base 23 v) :
    Calls Try.prog 3 #[v] w fun e w' => e = .returned (.bool true) ∧ Below w.heap.size w w' := by
  obtain ⟨c, rfl, hc⟩ := conf_of (n := 0) k o
  exact wnew_law c w
end Go.Proofs.Yteofdldlmmkgbaa
