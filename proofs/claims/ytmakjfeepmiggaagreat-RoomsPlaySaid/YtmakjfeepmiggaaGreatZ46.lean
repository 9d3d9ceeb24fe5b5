import Derived.Test.YtmakjfeepmiggaaGreatZ37
import Derived.Test.YtmakjfeepmiggaaGreatZ35
namespace Go.Proofs.YtmakjfeepmiggaaGreat
open Go.RowKit Go.Maps TagPure
set_option linter.unusedVariables false
def h18 : Int := 216172782113783809
theorem h18_bk : bk h18 2 = 1 := by kernel_rfl
theorem h18_ot : oth 1 (tag01 h18) 2 = 2 := by kernel_rfl
def s18 : CS := CS.init [(2, tword 2 0)]
def x18 : RM := rmnew 2 1 2
def q18 : CS := (rmits (s18, x18) 1).1.acc 2 (tagsA 2 1) 151587081
def y18 : RM := ⟨2, [2], 1, 2, .off, none, none, 2, 1, 0, true⟩
def z18 : RM := ⟨2, [], 1, 2, .off, none, none, 2, 2, 0, true⟩
def x18b : RM := ⟨2, [2], 1, 2, .look, none, none, 0, 0, 0, false⟩
theorem x18_is : x18 = ⟨2, [1, 2], 1, 2, .look, none, none, 0, 0, 0, false⟩ := by kernel_rfl
theorem ex18c : frW ((rmits (q18, x18) 1).1.val (tagsA 2 2)) = 0 := by kernel_rfl
theorem ex18d : (rmits (q18, x18) 1).2 = x18b := by kernel_rfl
theorem ex18e : (rmits (s18, x18) 1).2 = y18 := by kernel_rfl
theorem ex18f : (rmits (q18, x18) 2).2 = z18 := by kernel_rfl
theorem s18_n : s18.n ≤ 100 ∧ s18.cnt ≤ 100 := by
  have h := CS.init_n [(2, tword 2 0)]
  unfold s18
  rw [h.1, h.2.1]
  simp
theorem q18_n : q18.n ≤ 200 ∧ q18.cnt ≤ 200 := by
  have h := s18_n
  show s18.n + 1 + 1 ≤ 200 ∧ s18.cnt + 1 + 1 ≤ 200
  omega
theorem q18_n1 : (rmits (q18, x18) 1).1.n ≤ 300 ∧ (rmits (q18, x18) 1).1.cnt ≤ 300 := by
  have h := q18_n
  show q18.n + 1 ≤ 300 ∧ q18.cnt + 1 ≤ 300
  omega
theorem go18a : ∀ k, k < 1 → RmGo (rmits (s18, x18) k) := by
  intro k hk
  obtain rfl : k = 0 := by omega
  exact ⟨rfl, CS.room_of 100 s18_n (by unfold lim; omega), 1, [2], by rw [show rmits (s18, x18) 0 = (s18, x18) from rfl, x18_is], by decide, .inr (by decide)⟩
theorem go18b : ∀ k, k < 2 → RmGo (rmits (q18, x18) k) := by
  intro k hk
  rcases (show k = 0 ∨ k = 1 by omega) with rfl | rfl
  · exact ⟨rfl, CS.room_of 200 q18_n (by unfold lim; omega), 1, [2], by rw [show rmits (q18, x18) 0 = (q18, x18) from rfl, x18_is], by decide, .inr (by decide)⟩
  · refine ⟨by rw [ex18d]; rfl, CS.room_of 300 q18_n1 (by unfold lim; omega), 2, [], by rw [ex18d]; rfl, by decide, .inl ?_⟩
    rw [ex18d]
    rw [show x18b.bits = 2 from rfl, ex18c]
    decide
theorem room18 (w : World) : Calls Tryz.prog 33 #[.int .i64 2, .int .u64 h18] w fun e w' => ∃ rb, e = .returned (.pointer (some ⟨rb, 0, none⟩)) ∧ RoomAt w' w.heap.size rb x18 ∧ Below w.heap.size w w' := by
  have h := newroom_ok 2 h18 (by decide) (by decide) w
  rw [h18_bk, h18_ot] at h
  exact h
theorem eql_spotR1 (W : World) : (binOp .eql 71 (.agg #[.int .i64 2, .int .i64 1, .int .i64 0]) (.agg #[.int .i64 2, .int .i64 1, .int .i64 0])).run Tryz.prog W = .ok (.bool true) W := by
  kernel_rfl
theorem eql_spotR2 (W : World) : (binOp .eql 71 (.agg #[.int .i64 2, .int .i64 2, .int .i64 0]) (.agg #[.int .i64 2, .int .i64 2, .int .i64 0])).run Tryz.prog W = .ok (.bool true) W := by
  kernel_rfl
theorem spot2_any (u : Int) (hu : u = 1 ∨ u = 2) (w : World) : Calls Tryz.prog 107 #[.int .i64 2, .int .i64 u, .int .i64 0] w fun e w' => e = .returned (.agg #[.int .i64 2, .int .i64 u, .int .i64 0]) ∧ Below w.heap.size w w' := by
  have hsz := fun w => size_any 2 w
  have e0 : tsize 2 = 4 := by decide
  simp only [e0] at hsz
  rcases hu with rfl | rfl
  all_goals
    go_enter Tryz.func107, Tryz.ntmps107
    go_wp2_with (go_at_call 49; refine (hsz _).mono ?_; rintro e w1 ⟨rfl, hw⟩; obtain rfl := hw.symm)
    refine bodyPost_ret (v := .agg #[.int .i64 2, .int .i64 _, .int .i64 0]) (by simp [results, Tryz.results107, go_sem]) rfl ⟨rfl, ?_⟩
    exact below_alloc' _ _
abbrev TWr (wb cb : Nat) (W : World) : Prop := W.cell? ⟨wb, 0, none⟩ = some (.pointer (some ⟨cb, 0, none⟩))
set_option maxRecDepth 10000 in
set_option maxHeartbeats 4000000 in
theorem lives18 (w : World) : Calls Tryz.prog 32 #[] w fun e w' => e = .returned (.bool true) ∧ Below w.heap.size w w' := by
  have hNR := Lib.hid (fun W => room18 W)
  have hTG := Lib.hid (fun W => tags_any 2 1 W)
  have hS1 := Lib.hid (fun W => spot2_any 1 (.inl rfl) W)
  have hS2 := Lib.hid (fun W => spot2_any 2 (.inr rfl) W)
  go_enter Tryz.func32, Tryz.ntmps32
  go_upto_region 5 with (first
    | (go_at_call 38; refine (world12v 2 (by decide) w).mono ?_; intro e w1 hh; obtain ⟨B, hh1, h1⟩ := hh; subst hh1; have H1 : Hid (WS w w1 B (v0 ⟨2, 8, 3, 1, 16⟩) s18) := h1; clear h1)
    | (go_at_call 33; refine (hNR.out _).mono ?_; intro e w2 hh; obtain ⟨rb, hh1, a2, b2⟩ := hh; subst hh1; have H2 := Lib.hid (H1.out.keep b2); have hB2 : RMB w w2 w2 B (v0 ⟨2, 8, 3, 1, 16⟩) s18 rb x18 := ⟨H2.out, a2.lower H1.out.slow, (below_fr (Below.refl _ _) wTy true).fx rb⟩; have hr2 := rmrun 1 9 (by decide) (by decide) hB2 go18a (by rw [ex18e]; rfl); rw [ex18e] at hr2; clear a2 b2 hB2 H1))
  go_upto_region 6 with (go_at_call 39; refine hr2.mono ?_; intro e w3 hh; obtain ⟨hh1, h3⟩ := hh; subst hh1; have H3 := Lib.hid h3.ws; have hg3 := rmgot h3.rm; clear h3 hr2 H2)
  rw [if_pos (show y18.is = true from rfl)] at hg3
  have hg3 : Calls Tryz.prog 106 #[.pointer (some ⟨rb, 0, none⟩)] w3 fun e w' => e = .returned (.tuple #[.agg #[.int .i64 2, .int .i64 1, .int .i64 0], .bool true]) ∧ Below w3.heap.size w3 w' := hg3
  go_upto_region 7 with (go_at_call 106; refine hg3.mono ?_; intro e w4 hh; obtain ⟨hh1, b4⟩ := hh; subst hh1; have H4 := Lib.hid (H3.out.keep b4); clear b4 hg3 H3)
  have b5 := below_alloc w4 (.cells #[.int .i64 2, .int .i64 1, .int .i64 0] 71)
  have Z5 := Lib.hid (heap_alloc_new w4 (.cells #[.int .i64 2, .int .i64 1, .int .i64 0] 71))
  have H5 := Lib.hid (H4.out.keep b5)
  clear b5 H4
  change Code.wp _ _ _ _ (w4.alloc (.cells #[.int .i64 2, .int .i64 1, .int .i64 0] 71))
  generalize w4.alloc (.cells #[.int .i64 2, .int .i64 1, .int .i64 0] 71) = w5 at *
  generalize w4.heap.size = pa at *
  have hst5 : Hid (∀ W, Below w5.heap.size w5 W → Calls Tryz.prog 41 #[.pointer (some ⟨B.cb, 0, none⟩), .int .u64 (tagsA 2 1), .int .u64 151587081] W fun e w' => e = .returned (.int .u64 ((rmits (s18, x18) 1).1.val (tagsA 2 1))) ∧ WS w w' B (v0 ⟨2, 8, 3, 1, 16⟩) q18 ∧ Fr wTy true W w') := fun W hW => (H5.out.keep hW).store (CS.room_of 200 (by have h := s18_n; show s18.n + 1 ≤ 200 ∧ s18.cnt + 1 ≤ 200; omega) (by unfold lim; omega)) _ (tagsA_wf _ _) _ (by decide)
  have hs5 : TWr B.wb B.cb w5.drew := H5.out.c0
  have htg := hTG.out
  obtain ⟨A, hA⟩ : ∃ A, A = tagsA 2 1 := ⟨_, rfl⟩
  rw [← hA] at hst5 htg
  obtain ⟨R, hR⟩ : ∃ R, R = (rmits (s18, x18) 1).1.val A := ⟨_, rfl⟩
  rw [← hR] at hst5
  clear hA hR
  go_region_held2 (fun W => TWr B.wb B.cb W) (assumption) (first
    | (go_at_call 42; refine (htg _).mono ?_; intro e w6 hh; obtain ⟨hh1, b6⟩ := hh; subst hh1; have b6' := (Below.refl w5.heap.size w5).drew.trans b6; have s6 : TWr B.wb B.cb w6 := (H5.out.keep b6').c0; have Z6 := Lib.hid ((b6'.block _ (Array.getElem?_eq_some_iff.1 Z5.out).1).trans Z5.out); have hst6 := hst5.out w6 b6'; clear b6 b6' hs5 htg hst5 Z5)
    | (go_at_call 41; refine hst6.mono ?_; intro e w7 hh; obtain ⟨hh1, h7, f7⟩ := hh; subst hh1; have H7 := Lib.hid h7; have Z7 := Lib.hid (f7.cells _ _ _ _ Z6.out rfl); have s7 : TWr B.wb B.cb w7 := h7.c0; clear h7 f7 hst6 s6 Z6))
  clear s7 H5
  go_upto_region 10 with (first
    | (go_at_call 33; refine (hNR.out _).mono ?_; intro e w8 hh; obtain ⟨rc, hh1, a8, b8⟩ := hh; subst hh1; have H8 := Lib.hid (H7.out.keep b8); have hB8 : RMB w w8 w8 B (v0 ⟨2, 8, 3, 1, 16⟩) q18 rc x18 := ⟨H8.out, a8.lower H7.out.slow, (below_fr (Below.refl _ _) wTy true).fx rc⟩; have hr8 := rmrun 2 9 (by decide) (by decide) hB8 go18b (by rw [ex18f]; rfl); rw [ex18f] at hr8; have Z8 := Lib.hid ((b8.block _ (Array.getElem?_eq_some_iff.1 Z7.out).1).trans Z7.out); have NE8 := Lib.hid (Nat.ne_of_lt (Nat.lt_of_lt_of_le (Array.getElem?_eq_some_iff.1 Z7.out).1 a8.low)); clear a8 b8 hB8 H7 Z7)
    | (go_at_call 39; refine hr8.mono ?_; intro e w9 hh; obtain ⟨hh1, h9⟩ := hh; subst hh1; have H9 := Lib.hid h9.ws; have hg9 := rmgot h9.rm; have Z9 := Lib.hid (h9.fx.cells _ _ _ _ Z8.out rfl NE8.out); clear h9 hr8 H8 Z8 NE8))
  rw [if_pos (show z18.is = true from rfl)] at hg9
  have hg9 : Calls Tryz.prog 106 #[.pointer (some ⟨rc, 0, none⟩)] w9 fun e w' => e = .returned (.tuple #[.agg #[.int .i64 2, .int .i64 2, .int .i64 0], .bool true]) ∧ Below w9.heap.size w9 w' := hg9
  go_upto_region 11 with (go_at_call 106; refine hg9.mono ?_; intro e w10 hh; obtain ⟨hh1, b10⟩ := hh; subst hh1; have H10 := Lib.hid (H9.out.keep b10); have Z10 := Lib.hid ((b10.block _ (Array.getElem?_eq_some_iff.1 Z9.out).1).trans Z9.out); clear b10 hg9 H9 Z9)
  have b11 := below_alloc w10 (.cells #[.int .i64 2, .int .i64 2, .int .i64 0] 71)
  have Y11 := Lib.hid (heap_alloc_new w10 (.cells #[.int .i64 2, .int .i64 2, .int .i64 0] 71))
  have Z11 := Lib.hid ((b11.block _ (Array.getElem?_eq_some_iff.1 Z10.out).1).trans Z10.out)
  have H11 := Lib.hid (H10.out.keep b11)
  clear b11 H10 Z10
  change Code.wp _ _ _ _ (w10.alloc (.cells #[.int .i64 2, .int .i64 2, .int .i64 0] 71))
  generalize w10.alloc (.cells #[.int .i64 2, .int .i64 2, .int .i64 0] 71) = w11 at *
  generalize w10.heap.size = pb at *
  have za : ∀ st : ExtW w11, st.val.cell? ⟨pa, 0, none⟩ = some (.int .i64 2) ∧ st.val.cell? ⟨pa, 1, none⟩ = some (.int .i64 1) ∧ st.val.cell? ⟨pa, 2, none⟩ = some (.int .i64 0) := fun st => ⟨st.cell (hcell Z11.out 0), st.cell (hcell Z11.out 1), st.cell (hcell Z11.out 2)⟩
  have zb : ∀ st : ExtW w11, st.val.cell? ⟨pb, 0, none⟩ = some (.int .i64 2) ∧ st.val.cell? ⟨pb, 1, none⟩ = some (.int .i64 2) ∧ st.val.cell? ⟨pb, 2, none⟩ = some (.int .i64 0) := fun st => ⟨st.cell (hcell Y11.out 0), st.cell (hcell Y11.out 1), st.cell (hcell Y11.out 2)⟩
  have za0 := fun st => (za st).1; have za1 := fun st => (za st).2.1; have za2 := fun st => (za st).2.2
  have zb0 := fun st => (zb st).1; have zb1 := fun st => (zb st).2.1; have zb2 := fun st => (zb st).2.2
  have m1 := fun st : ExtW w11 => hS1.out st.val
  have m2 := fun st : ExtW w11 => hS2.out st.val
  have hq1 := fun W => eql_spotR1 W
  have hq2 := fun W => eql_spotR2 W
  clear za zb
  refine wp_region_ext (by kernel_rfl) (by kernel_rfl) ?_
  repeat (go_big_quiet_step (first
    | (go_at_call 107; with_reducible refine calls_ext (m1 _))
    | (go_at_call 107; with_reducible refine calls_ext (m2 _))))
  refine wpQuiet_nil ?_
  rintro W13 ⟨⟨W14, hW⟩, rfl⟩
  clear za0 za1 za2 zb0 zb1 zb2 m1 m2 hq1 hq2
  have H14 := Lib.hid (H11.out.keep hW)
  clear hW
  go_wp2_with (fail)
  go_ret
  exact ⟨rfl, H14.out.below⟩
end Go.Proofs.YtmakjfeepmiggaaGreat