/-
  Texts of this prover, merged: PairAll, TicketsNil, TicketsVoid.
-/
import Derived.Test.YteofdldlmmkgbaaGreatPairSame
import Derived.Test.YteofdldlmmkgbaaGreatM2
import Derived.Test.YteofdldlmmkgbaaGreatM1
import Derived.Deep.DeepCutAuto
import Derived.Deep.CutBlock
/-
  Pair.SameAll, where nothing was noted.
-/
namespace Go.Proofs.YteofdldlmmkgbaaGreat
open Go.RowKit Go.Maps
set_option linter.unusedVariables false

theorem nclip_nil (w : World) : Calls Tryz.prog 209 #[.slice none 0 0] w fun e w' => e = .returned (.slice none 0 0) ∧ w' = w := by
  go_enter Tryz.func209, Tryz.ntmps209
  go_wp2
  go_ret
  exact ⟨rfl, rfl⟩
theorem picked_nil {w : World} {base nb TN : Nat} (h : NL w base nb 278 TN .u8 []) (g : Value) : Calls Tryz.prog 183 #[.pointer (some ⟨nb, 0, none⟩), g] w fun e w' => e = .returned (.slice none 0 0) ∧ Below w.heap.size w w' := by
  obtain ⟨a, cap, -, hn⟩ := notes_any h
  clear h
  go_enter Tryz.func183, Tryz.ntmps183
  go_wp2_with (go_at_call 145; refine hn.mono ?_; rintro e w' ⟨rfl, rfl⟩)
  refine wp_loop_rounds 1 ?_
  rw [rounds_succ]
  go_wp2_with (go_at_call 209; refine (nclip_nil _).mono ?_; rintro e w' ⟨rfl, rfl⟩)
  go_ret
  exact ⟨rfl, Below.refl _ _⟩
theorem since_nil {w : World} {base nb TN : Nat} (h : NL w base nb 278 TN .u8 []) (n : Int) : Calls Tryz.prog 137 #[.pointer (some ⟨nb, 0, none⟩), .int .i64 n] w fun e w' => e = .returned (.slice none 0 0) ∧ Below w.heap.size w w' := by
  have hb := below_alloc w (.cells #[.int .i64 n] 3)
  have hp := fun g => picked_nil (h.fr (below_fr hb (fun _ => false) false) rfl rfl) g
  clear h
  go_enter Tryz.func137, Tryz.ntmps137
  go_wp2_with (go_at_call 183; refine (hp _).mono ?_; rintro e w' ⟨rfl, b⟩)
  go_ret
  exact ⟨rfl, hb.trans (b.mono hb.size)⟩
theorem all_nil {w : World} {base nb TN : Nat} (h : NL w base nb 278 TN .u8 []) : Calls Tryz.prog 74 #[.pointer (some ⟨nb, 0, none⟩)] w fun e w' => e = .returned (.slice none 0 0) ∧ Below w.heap.size w w' := by
  have hp := since_nil h 0
  clear h
  go_enter Tryz.func74, Tryz.ntmps74
  go_wp2_with (go_at_call 137; refine hp.mono ?_; rintro e w' ⟨rfl, b⟩)
  go_ret
  exact ⟨rfl, b⟩
section
variable {w0 w : World} {B R : WB} {V : WV} {s : CS} {x : RS}
theorem WS.iat (h : WS w0 w B V s) (hl : V.its.length ≤ 1048576) (r : Int) : Calls Tryz.prog 76 #[.pointer (some ⟨B.ib, 0, none⟩), .int .i64 r] w fun e w' => e = .returned (.tuple #[.agg #[.string ((atOf V.its r).1).key, .string ((atOf V.its r).1).val, .int .u32 ((atOf V.its r).1).flags, .int .u64 ((atOf V.its r).1).id, .int .i64 ((atOf V.its r).1).dies, .int .i64 ((atOf V.its r).1).gen], .bool (atOf V.its r).2]) ∧ Below w.heap.size w w' := by
  obtain ⟨S, hS⟩ := h.ar
  exact iat_any _ _ _ S r w hS hl
theorem RD.iat (h : RD w0 w R V x) (hl : V.its.length ≤ 1048576) (r : Int) : Calls Tryz.prog 77 #[.pointer (some ⟨R.ib, 0, none⟩), .int .i64 r] w fun e w' => e = .returned (.tuple #[.agg #[.string ((atOf V.its r).1).key, .string ((atOf V.its r).1).val, .int .u32 ((atOf V.its r).1).flags, .int .u64 ((atOf V.its r).1).id, .int .i64 ((atOf V.its r).1).dies, .int .i64 ((atOf V.its r).1).gen], .bool (atOf V.its r).2]) ∧ Below w.heap.size w w' := by
  obtain ⟨S, hS⟩ := h.ar
  exact rat_any _ _ _ S r w hS hl

set_option maxRecDepth 10000 in
set_option maxHeartbeats 4000000 in
theorem psall_any (h : Pr w0 w B R V s x) (hV : V.nts = []) (hl : V.its.length ≤ 1000000) (hsn : s.n ≤ 1000000) :
    Calls Tryz.prog 15 #[.agg #[.pointer (some ⟨B.wb, 0, none⟩), .pointer (some ⟨R.wb, 0, none⟩)]] w fun e w' => e = .returned (.bool true) ∧ Below w.heap.size w w' := by
  have hq0 := heap_alloc_new w (.cells #[.pointer (some ⟨B.wb, 0, none⟩), .pointer (some ⟨R.wb, 0, none⟩)] 34)
  have hB1 := below_alloc w (.cells #[.pointer (some ⟨B.wb, 0, none⟩), .pointer (some ⟨R.wb, 0, none⟩)] 34)
  have H1 := Lib.hid (h.keep hB1); have HQ := Lib.hid hq0; have HB1 := Lib.hid hB1; have HV := Lib.hid hV; have HL := Lib.hid hl; have HSN := Lib.hid hsn
  clear h hq0 hB1 hV hl hsn
  go_enter Tryz.func15, Tryz.ntmps15
  go_upto_region 1 with (fail)
  change Code.wp _ _ _ _ (w.alloc (.cells #[.pointer (some ⟨B.wb, 0, none⟩), .pointer (some ⟨R.wb, 0, none⟩)] 34))
  generalize w.alloc (.cells #[.pointer (some ⟨B.wb, 0, none⟩), .pointer (some ⟨R.wb, 0, none⟩)] 34) = w1 at *
  have hq := HQ.out
  have q0 := fun st : ExtW w1 => st.cell (hcell hq 0)
  have q1 := fun st : ExtW w1 => st.cell (hcell hq 1)
  have d0 := fun st : ExtW w1 => st.cell H1.out.ws.hd.1
  have g0 := fun st : ExtW w1 => st.cell H1.out.rd.hd.1
  have hs := fun st : ExtW w1 => psame_any (H1.out.keep st.below)
  have h5 := fun st : ExtW w1 => same05_any (⟨(H1.out.keep st.below).ws.own, (H1.out.keep st.below).rd.ref, (H1.out.keep st.below).al⟩ : Both w0 st.val B.cb R.cb s x) HSN.out
  clear hq
  refine wp_region_ext (by kernel_rfl) (by kernel_rfl) ?_
  repeat (go_big_quiet_step (first
    | (go_at_call 17; with_reducible refine calls_ext (hs _))
    | (go_at_call 73; with_reducible refine calls_ext (h5 _))))
  refine wpQuiet_nil ?_
  rintro W2 ⟨⟨W3, hW⟩, rfl⟩
  have H2 := Lib.hid (H1.out.keep hW)
  have HQ2 := Lib.hid ((hW.block _ (Array.getElem?_eq_some_iff.1 HQ.out).1).trans HQ.out)
  have HB2 : Hid (Below w.heap.size w W2) := HB1.out.trans (hW.mono HB1.out.size)
  clear q0 q1 d0 g0 hs h5 hW H1 HQ HB1
  have p0 := hcell HQ2.out 0
  have p1 := hcell HQ2.out 1
  obtain ⟨c0, c1, c2, c72⟩ := H2.out.ws.hd
  have hnt := H2.out.ws.nt
  rw [HV.out] at hnt
  have hal := all_nil hnt
  clear hnt
  go_upto_region 4 with (go_at_call 74; refine hal.mono ?_; rintro e w4 ⟨rfl, b4⟩; have H4 := Lib.hid (H2.out.keep b4); have HQ4 := Lib.hid ((b4.block _ (Array.getElem?_eq_some_iff.1 HQ2.out).1).trans HQ2.out); have HB4 : Hid (Below w.heap.size w w4) := HB2.out.trans (b4.mono HB2.out.size); clear b4 hal p0 p1 c0 c1 c2 c72)
  clear H2 HQ2 HB2
  have p0 := hcell HQ4.out 0
  have p1 := hcell HQ4.out 1
  obtain ⟨r0, r1, r2, r72⟩ := H4.out.rd.hd
  obtain ⟨nv, hn1, hn2, hn3⟩ := H4.out.rd.nt
  obtain ⟨na, ncap, hnv⟩ := own_sl hn3
  subst hnv
  rw [HV.out] at hn1
  have n0 : w4.cell? ⟨R.nb, 0, none⟩ = some (.slice na 0 ncap) := hcell hn1 0
  clear hn1 hn2 hn3
  go_wp2_with fail
  refine wp_loop_rounds 1 ?_
  rw [rounds_succ]
  go_wp2_with fail
  clear p0 p1 r0 r1 r2 r72 n0
  go_loopw [6] (fun i wr => ∃ k : Nat, k ≤ V.its.length + 2 ∧ i = .int .i64 k ∧ Pr w0 wr B R V s x ∧ wr.heap[w.heap.size]? = some (.cells #[.pointer (some ⟨B.wb, 0, none⟩), .pointer (some ⟨R.wb, 0, none⟩)] 34 (0, 0)) ∧ Below w.heap.size w wr) (fun i _ => V.its.length + 2 - (intOf i).toNat)
  case atStart => exact ⟨0, by omega, rfl, H4.out, HQ4.out, HB4.out⟩
  case round =>
    clear H4 HQ4 HB4
    obtain ⟨k, hk, rfl, h, hq, hB⟩ := hrel
    have p0 := hcell hq 0
    have p1 := hcell hq 1
    obtain ⟨c0, c1, c2, c72⟩ := h.ws.hd
    obtain ⟨r0, r1, r2, r72⟩ := h.rd.hd
    have hri := h.rd.icount
    have hl := HL.out
    by_cases hlt : k ≤ V.its.length + 1
    · have hlt' : (k : Int) ≤ V.its.length + 1 := by omega
      have hia := h.ws.iat (by omega) k
      obtain ⟨yy, hye⟩ : ∃ yy, atOf V.its k = yy := ⟨_, rfl⟩
      rw [hye] at hia
      have HYE := Lib.hid hye
      clear hye
      have HRI := Lib.hid h; have HQ := Lib.hid hq; have HB := Lib.hid hB
      clear h hq hB
      go_upto_region 16 with (first
        | (go_at_call 75; with_reducible refine hri.mono ?_; rintro e w' ⟨rfl, hw⟩; obtain rfl := hw; clear hri)
        | (go_at_call 76; with_reducible refine hia.mono ?_; rintro e w5 ⟨rfl, b5⟩; clear hia p0 p1 c0 c1 c2 c72 r0 r1 r2 r72; have H5 := Lib.hid b5))
      obtain ⟨y, yb⟩ := yy
      simp only []
      have hb6 := below_alloc w5 (.cells y.cells.toArray 39)
      have hy6 : Box (w5.alloc (.cells y.cells.toArray 39)) w5.heap.size y := heap_alloc_new w5 _
      change Code.wp _ _ _ _ (w5.alloc (.cells y.cells.toArray 39))
      generalize w5.alloc (.cells y.cells.toArray 39) = w6 at *
      have hb16 : Below wr.heap.size wr w6 := H5.out.trans (hb6.mono H5.out.size)
      generalize w5.heap.size = qa at *
      have HY6 := Lib.hid hy6
      have H6 := Lib.hid (HRI.out.keep hb16)
      have HQ6 := Lib.hid ((hb16.block _ (Array.getElem?_eq_some_iff.1 HQ.out).1).trans HQ.out)
      have HB6 : Hid (Below w.heap.size w w6) := HB.out.trans (hb16.mono HB.out.size)
      have p1 := hcell HQ6.out 1
      have r1 := H6.out.rd.hd.2.1
      have hrb := H6.out.rd.iat (by have := HL.out; omega) k
      rw [HYE.out] at hrb
      clear hb6 hy6 hb16 H5 HRI HQ HB
      go_upto_region 17 with (go_at_call 77; with_reducible refine hrb.mono ?_; rintro e w7 ⟨rfl, b7⟩; clear hrb p1 r1; have H7 := Lib.hid b7)
      have hb8 := below_alloc w7 (.cells y.cells.toArray 39)
      have hy8 : Box (w7.alloc (.cells y.cells.toArray 39)) w7.heap.size y := heap_alloc_new w7 _
      change Code.wp _ _ _ _ (w7.alloc (.cells y.cells.toArray 39))
      generalize w7.alloc (.cells y.cells.toArray 39) = w8 at *
      have hb68 : Below w6.heap.size w6 w8 := H7.out.trans (hb8.mono H7.out.size)
      generalize w7.heap.size = qb at *
      have hya : Box w8 qa y := HY6.out.below hb68
      obtain ⟨a0, a1, a2, a3, a4, a5⟩ := hya.cells
      obtain ⟨e0, e1, e2, e3, e4, e5⟩ := hy8.cells
      have H8 := Lib.hid (H6.out.keep hb68)
      have HQ8 := Lib.hid ((hb68.block _ (Array.getElem?_eq_some_iff.1 HQ6.out).1).trans HQ6.out)
      have HB8 : Hid (Below w.heap.size w w8) := HB6.out.trans (hb68.mono HB6.out.size)
      clear hb8 hb68 hya hy8 H6 HQ6 HB6 HY6 H7
      go_wp2_with fail
      go_roundw
      case rel => exact ⟨k + 1, by omega, by go_num, H8.out, HQ8.out, HB8.out⟩
      case measure => simp [intOf]; omega
    · obtain rfl : k = V.its.length + 2 := by omega
      have hlt' : (V.its.length : Int) + 1 < ((V.its.length + 2 : Nat) : Int) := by omega
      have HB9 := Lib.hid hB
      clear h hq hB
      go_wp2_with (go_at_call 75; with_reducible refine hri.mono ?_; rintro e w' ⟨rfl, hw⟩; obtain rfl := hw; clear hri)
      go_ret
      exact ⟨rfl, HB9.out⟩
end
end Go.Proofs.YteofdldlmmkgbaaGreat

/-
  Tickets: what is not there; rows of pointers.
-/
namespace Go.Proofs.YteofdldlmmkgbaaGreat
open Go.RowKit Go.Maps
set_option linter.unusedVariables false

theorem over_nil (w : World) : Calls Tryz.prog 21 #[.pointer none] w fun e w' => e = .returned (.bool true) ∧ w' = w := by
  go_enter Tryz.func21, Tryz.ntmps21
  go_wp2
  go_ret
  exact ⟨rfl, rfl⟩
theorem got_nil (w : World) : Calls Tryz.prog 20 #[.pointer none] w fun e w' => e = .returned (.tuple #[.int .u64 0, .bool false]) ∧ w' = w := by
  go_enter Tryz.func20, Tryz.ntmps20
  go_wp2
  go_ret2
  exact ⟨rfl, rfl⟩
theorem step_nil (v : Value) (w : World) : Calls Tryz.prog 22 #[.pointer none, v] w fun e w' => e = .returned (.bool true) ∧ w' = w := by
  go_enter Tryz.func22, Tryz.ntmps22
  go_wp2_with (go_at_call 21; refine (over_nil _).mono ?_; rintro e w1 ⟨rfl, hw⟩; obtain rfl := hw.symm)
  go_ret
  exact ⟨rfl, rfl⟩
theorem gover_nil (w : World) : Calls Tryz.prog 23 #[.pointer none] w fun e w' => e = .returned (.bool true) ∧ w' = w := by
  go_enter Tryz.func23, Tryz.ntmps23
  go_wp2
  go_ret
  exact ⟨rfl, rfl⟩
theorem gstep_nil (v : Value) (w : World) : Calls Tryz.prog 24 #[.pointer none, v] w fun e w' => e = .returned (.bool true) ∧ w' = w := by
  go_enter Tryz.func24, Tryz.ntmps24
  go_wp2_with (go_at_call 23; refine (gover_nil _).mono ?_; rintro e w1 ⟨rfl, hw⟩; obtain rfl := hw.symm)
  go_ret
  exact ⟨rfl, rfl⟩
theorem gstep_void {w : World} {b : Nat} (h : GiveAt w b 0) (v : Value) : Calls Tryz.prog 24 #[.pointer (some ⟨b, 0, none⟩), v] w fun e w' => e = .returned (.bool true) ∧ w' = w := by
  have ho := gover h true rfl
  clear h
  go_enter Tryz.func24, Tryz.ntmps24
  go_wp2_with (go_at_call 23; refine ho.mono ?_; rintro e w1 ⟨rfl, hw⟩; obtain rfl := hw.symm)
  go_ret
  exact ⟨rfl, rfl⟩
theorem gstep_no {w : World} {b : Nat} (h : GiveAt w b 1) : Calls Tryz.prog 24 #[.pointer (some ⟨b, 0, none⟩), .pointer none] w fun e w' => e = .returned (.bool false) ∧ w' = w := by
  have ho := gover h false rfl
  clear h
  go_enter Tryz.func24, Tryz.ntmps24
  go_wp2_with (go_at_call 23; refine ho.mono ?_; rintro e w1 ⟨rfl, hw⟩; obtain rfl := hw.symm)
  go_ret
  exact ⟨rfl, rfl⟩
theorem waits_none (t : Int) (w : World) : Calls Tryz.prog 19 #[.pointer none, .int .i64 t] w fun e w' => e = .returned (.bool false) ∧ w' = w := by
  go_enter Tryz.func19, Tryz.ntmps19
  go_wp2
  go_ret
  exact ⟨rfl, rfl⟩
theorem waits_out (b : Nat) (t : Int) (h : t < 0 ∨ 63 < t) (w : World) : Calls Tryz.prog 19 #[.pointer (some ⟨b, 0, none⟩), .int .i64 t] w fun e w' => e = .returned (.bool false) ∧ w' = w := by
  have ht := thread_out t h w
  clear h
  go_enter Tryz.func19, Tryz.ntmps19
  go_wp2_with (go_at_call 89; refine ht.mono ?_; rintro e w1 ⟨rfl, hw⟩; obtain rfl := hw.symm)
  go_ret
  exact ⟨rfl, rfl⟩
/-- A Take that is over, or none. -/
def VTake (w : World) (v : Value) : Prop := v = .pointer none ∨ ∃ b t, v = .pointer (some ⟨b, 0, none⟩) ∧ TakeAt w b t 0 false 0
theorem VTake.keep {w w' : World} {v : Value} (h : VTake w v) (hk : ∀ b t, v = .pointer (some ⟨b, 0, none⟩) → TakeAt w b t 0 false 0 → w'.heap[b]? = w.heap[b]?) : VTake w' v := by
  rcases h with rfl | ⟨b, t, rfl, h⟩
  · exact .inl rfl
  · exact .inr ⟨b, t, rfl, (hk b t rfl h).trans h⟩
theorem VTake.below {w w' : World} {v : Value} (h : VTake w v) (hb : Below w.heap.size w w') : VTake w' v := h.keep fun b t _ h => hb.block _ h.lt
theorem VTake.over {w : World} {v : Value} (h : VTake w v) : Calls Tryz.prog 21 #[v] w fun e w' => e = .returned (.bool true) ∧ w' = w := by
  rcases h with rfl | ⟨b, t, rfl, h⟩
  · exact over_nil w
  · exact tover h true rfl
theorem VTake.got {w : World} {v : Value} (h : VTake w v) : Calls Tryz.prog 20 #[v] w fun e w' => e = .returned (.tuple #[.int .u64 0, .bool false]) ∧ Below w.heap.size w w' := by
  rcases h with rfl | ⟨b, t, rfl, h⟩
  · exact (got_nil w).mono fun e w' ⟨h1, h2⟩ => ⟨h1, h2 ▸ Below.refl _ _⟩
  · exact got_any h
theorem VTake.step {w : World} {v u : Value} (h : VTake w v) (hu : u = .pointer none ∨ ∃ a, u = .pointer (some a)) : Calls Tryz.prog 22 #[v, u] w fun e w' => e = .returned (.bool true) ∧ w' = w := by
  rcases h with rfl | ⟨b, t, rfl, h⟩
  · exact step_nil u w
  · exact tstep0 h u hu
/-- A row of pointers that the call made. -/
theorem own_lit (w : World) (base e : Nat) (xs : List Value) (hb : base ≤ w.heap.size) (hn : xs.length ≤ maxLen) : (w.alloc (.cells xs.toArray e)).ownsRow base e 1 (.slice (some ⟨w.heap.size, 0, none⟩) xs.length xs.length) xs.length xs :=
  ⟨by simp, .inr ⟨_, _, _, rfl, hb, heap_alloc_new w _, Nat.le_refl _, hn, by simp, by simp⟩⟩
theorem own_at {w : World} {base e n : Nat} {v : Value} {xs : List Value} (h : w.ownsRow base e 1 v n xs) (i : Nat) (hi : i < n) : ∃ g cap x, v = .slice (some ⟨g, 0, none⟩) n cap ∧ xs[i]? = some x ∧ w.cell? ⟨g, i, none⟩ = some x ∧ base ≤ g := by
  obtain ⟨h1, ⟨rfl, h0⟩ | ⟨g, cap, cur, rfl, hb, hg, hn, hm, hs, ht⟩⟩ := h
  · omega
  · have hx : i < xs.length := by omega
    refine ⟨g, cap, xs[i], rfl, List.getElem?_eq_getElem hx, ?_, hb⟩
    have e1 : xs[i]? = (cur.toList.take (n * 1))[i]? := by rw [ht]
    rw [List.getElem?_take, if_pos (by omega), List.getElem?_eq_getElem hx] at e1
    unfold World.cell?; simp only; rw [hg]
    simpa using e1.symm
end Go.Proofs.YteofdldlmmkgbaaGreat

/-
  TicketsVoid: the walk.
-/
namespace Go.Proofs.YteofdldlmmkgbaaGreat
open Go.RowKit Go.Maps
set_option linter.unusedVariables false

theorem takeTy_w (T : TypeId) (h : wTy T = true) : (T == 54) = false := by
  cases hT : (T == 54)
  · rfl
  · rw [beq_iff_eq] at hT; subst hT; cases h
theorem takeTy_r (T : TypeId) (h : rTy T = true) : (T == 54) = false := by
  cases hT : (T == 54)
  · rfl
  · rw [beq_iff_eq] at hT; subst hT; cases h
theorem grown_fr {w w' : World} {g e : Nat} {cs : Array Value} {fr : Nat × Nat} (hg : w.heap[g]? = some (.cells cs e fr)) (h : w.grownBy w' (some g)) : Fr (fun T => T == e) false w w' :=
  ⟨h.size, fun k cs2 T fr2 hk hT => (h.block k (Array.getElem?_eq_some_iff.1 hk).1 (fun c => by
    cases c
    have := hg.symm.trans hk; simp only [Option.some.injEq, Obj.cells.injEq] at this
    rw [this.2.1] at hT; simp at hT)).trans hk, fun _ k es cl hk => (h.block k (Array.getElem?_eq_some_iff.1 hk).1 (fun c => by
    cases c
    have := hg.symm.trans hk; cases this)).trans hk⟩
def TVS (w wx : World) (B R : WB) (V : WV) (s : CS) (x : RS) (q gb g : Nat) (v : Value) : Prop :=
  ∃ n xs, n ≤ 5 ∧ wx.ownsRow g 54 1 v n xs ∧ (∀ x ∈ xs, VTake wx x) ∧ Pr w wx B R V s x ∧ wx.heap[q]? = some (.cells #[.pointer (some ⟨B.wb, 0, none⟩), .pointer (some ⟨R.wb, 0, none⟩)] 34 (0, 0)) ∧ GiveAt wx gb 0
theorem TVS.below {w wx wy : World} {B R : WB} {V : WV} {s : CS} {x : RS} {q gb g : Nat} {v : Value} (h : TVS w wx B R V s x q gb g v) (hb : Below wx.heap.size wx wy) : TVS w wy B R V s x q gb g v := by
  obtain ⟨n, xs, h1, h2, h3, h4, h5, h6⟩ := h
  exact ⟨n, xs, h1, own_fr h2 (below_fr hb (fun _ => false) false) rfl, fun y hy => (h3 y hy).below hb, h4.keep hb, (hb.block _ (Array.getElem?_eq_some_iff.1 h5).1).trans h5, (hb.block _ h6.lt).trans h6⟩
theorem info_take : (Tryz.prog.info? 54).map (fun i => (i.zero, i.size, i.bytes)) = some (some (.pointer none), 1, 8) := by kernel_rfl

set_option maxRecDepth 10000 in
set_option maxHeartbeats 4000000 in
theorem tvoid_any (t : Int) (ht : (Lit.int .i64 t).wf = true) (w : World) : Calls Tryz.prog 4 #[.int .i64 t] w fun e w' => e = .returned (.bool true) ∧ Below w.heap.size w w' := by
  go_enter Tryz.func4, Tryz.ntmps4
  go_upto_region 2 with (go_at_call 14; refine (begin_zero w).mono ?_; rintro e w3 ⟨B, R, V, s, x, rfl, hpr, hV, hfar, -, -⟩; have HPR := Lib.hid hpr; have HFAR := Lib.hid hfar; have HV : Hid (V.its = [] ∧ V.nts = []) := ⟨by rw [hV]; rfl, by rw [hV]; rfl⟩; clear hpr hV hfar)
  have hq0 := heap_alloc_new w3 (.cells #[.pointer (some ⟨B.wb, 0, none⟩), .pointer (some ⟨R.wb, 0, none⟩)] 34)
  have hB4 := below_alloc w3 (.cells #[.pointer (some ⟨B.wb, 0, none⟩), .pointer (some ⟨R.wb, 0, none⟩)] 34)
  have HP4 := Lib.hid (HPR.out.keep hB4)
  have HWQ : Hid (w.heap.size ≤ w3.heap.size) := HPR.out.ws.below.size
  change Code.wp _ _ _ _ (w3.alloc (.cells #[.pointer (some ⟨B.wb, 0, none⟩), .pointer (some ⟨R.wb, 0, none⟩)] 34))
  generalize w3.alloc (.cells #[.pointer (some ⟨B.wb, 0, none⟩), .pointer (some ⟨R.wb, 0, none⟩)] 34) = w4 at *
  generalize w3.heap.size = q at *
  have HQ4 := Lib.hid hq0
  clear hq0 hB4 HPR
  go_upto_region 6 with (fail)
  have hb5 : Below w4.heap.size w4 ((w4.alloc (.cells #[.int .i64 0, .int .u64 0, .bool false, .nilFunc] 53)).alloc (.cells #[.int .i64 0] 56)) := (below_alloc w4 _).trans ((below_alloc _ _).mono (below_alloc w4 _).size)
  have ht5 : TakeAt ((w4.alloc (.cells #[.int .i64 0, .int .u64 0, .bool false, .nilFunc] 53)).alloc (.cells #[.int .i64 0] 56)) w4.heap.size 0 0 false 0 := heap_alloc_old (heap_alloc_new w4 _)
  have hg5 : GiveAt ((w4.alloc (.cells #[.int .i64 0, .int .u64 0, .bool false, .nilFunc] 53)).alloc (.cells #[.int .i64 0] 56)) (w4.heap.size + 1) 0 := heap_alloc_at _ _ (by simp)
  change Code.wp _ _ _ _ ((w4.alloc (.cells #[.int .i64 0, .int .u64 0, .bool false, .nilFunc] 53)).alloc (.cells #[.int .i64 0] 56))
  generalize (w4.alloc (.cells #[.int .i64 0, .int .u64 0, .bool false, .nilFunc] 53)).alloc (.cells #[.int .i64 0] 56) = w5 at *
  have HP5 := Lib.hid (HP4.out.keep hb5)
  have HQ5 := Lib.hid ((hb5.block _ (Array.getElem?_eq_some_iff.1 HQ4.out).1).trans HQ4.out)
  have HT5 := Lib.hid ht5; have HG5 := Lib.hid hg5
  clear hb5 ht5 hg5 HP4 HQ4
  go_upto_region 7 with (first
    | (go_at_call 18; with_reducible refine (newtake_out (-1) (by decide) _).mono ?_; rintro e w6 ⟨rfl, t6, b6⟩; have HT6 := Lib.hid t6; have HB6 := Lib.hid b6; clear t6 b6)
    | (go_at_call 18; with_reducible refine (newtake_out 64 (by decide) _).mono ?_; rintro e w7 ⟨rfl, t7, b7⟩; have HT7 := Lib.hid t7; have HB7 := Lib.hid b7; clear t7 b7))
  have hb8 := below_alloc w7 (.cells #[.pointer (some ⟨w4.heap.size, 0, none⟩), .pointer none, .pointer (some ⟨w5.heap.size, 0, none⟩), .pointer (some ⟨w6.heap.size, 0, none⟩)] 54)
  have hrow := own_lit w7 w7.heap.size 54 [.pointer (some ⟨w4.heap.size, 0, none⟩), .pointer none, .pointer (some ⟨w5.heap.size, 0, none⟩), .pointer (some ⟨w6.heap.size, 0, none⟩)] (Nat.le_refl _) (by unfold maxLen; simp)
  change World.ownsRow (w7.alloc (.cells #[.pointer (some ⟨w4.heap.size, 0, none⟩), .pointer none, .pointer (some ⟨w5.heap.size, 0, none⟩), .pointer (some ⟨w6.heap.size, 0, none⟩)] 54)) w7.heap.size 54 1 (.slice (some ⟨w7.heap.size, 0, none⟩) 4 4) 4 _ at hrow
  change Code.wp _ _ _ _ (w7.alloc (.cells #[.pointer (some ⟨w4.heap.size, 0, none⟩), .pointer none, .pointer (some ⟨w5.heap.size, 0, none⟩), .pointer (some ⟨w6.heap.size, 0, none⟩)] 54))
  generalize w7.alloc (.cells #[.pointer (some ⟨w4.heap.size, 0, none⟩), .pointer none, .pointer (some ⟨w5.heap.size, 0, none⟩), .pointer (some ⟨w6.heap.size, 0, none⟩)] 54) = w8 at *
  have h57 : Below w5.heap.size w5 w7 := HB6.out.trans (HB7.out.mono HB6.out.size)
  have h58 : Below w5.heap.size w5 w8 := h57.trans (hb8.mono h57.size)
  have h68 : Below w6.heap.size w6 w8 := HB7.out.trans (hb8.mono HB7.out.size)
  have hvt : ∀ x ∈ [Value.pointer (some ⟨w4.heap.size, 0, none⟩), .pointer none, .pointer (some ⟨w5.heap.size, 0, none⟩), .pointer (some ⟨w6.heap.size, 0, none⟩)], VTake w8 x := by
    intro x hx
    simp only [List.mem_cons, List.not_mem_nil, or_false] at hx
    rcases hx with rfl | rfl | rfl | rfl
    · exact .inr ⟨_, _, rfl, HT5.out.below h58⟩
    · exact .inl rfl
    · exact .inr ⟨_, _, rfl, HT6.out.below h68⟩
    · exact .inr ⟨_, _, rfl, HT7.out.below hb8⟩
  have HST : Hid (TVS w w8 B R V s x q (w4.heap.size + 1) w7.heap.size (.slice (some ⟨w7.heap.size, 0, none⟩) 4 4)) :=
    ⟨4, _, by omega, hrow, hvt, HP5.out.keep h58, (h58.block _ (Array.getElem?_eq_some_iff.1 HQ5.out).1).trans HQ5.out, (h58.block _ HG5.out.lt).trans HG5.out⟩
  have HROW : Hid (w8.ownsRow w7.heap.size 54 1 (.slice (some ⟨w7.heap.size, 0, none⟩) 4 4) 4 _ ∧ w7.heap.size < w8.heap.size) := ⟨hrow, by
    obtain ⟨-, ⟨h, -⟩ | ⟨g', c', u', h, -, hg, -⟩⟩ := hrow
    · cases h
    · cases h; exact (Array.getElem?_eq_some_iff.1 hg).1⟩
  have hq7 : q < w7.heap.size := Nat.lt_of_lt_of_le (Array.getElem?_eq_some_iff.1 HQ5.out).1 h57.size
  have hg7 : w4.heap.size + 1 < w7.heap.size := Nat.lt_of_lt_of_le HG5.out.lt h57.size
  have HQG := Lib.hid (And.intro hq7 hg7)
  have HVT := Lib.hid hvt
  clear hb8 hrow h57 h58 h68 hvt HT5 HT6 HT7 HB6 HB7 HP5 HQ5 HG5 hq7 hg7
  generalize w7.heap.size = g at *
  generalize w4.heap.size + 1 = gb at *
  generalize hxs : ([Value.pointer (some ⟨w4.heap.size, 0, none⟩), .pointer none, .pointer (some ⟨w5.heap.size, 0, none⟩), .pointer (some ⟨w6.heap.size, 0, none⟩)] : List Value) = xs4 at *
  clear hxs
  obtain ⟨i0, hi0, hz0, hz1, hz2⟩ := info_parts info_take
  have HI := Lib.hid hi0; have HZ0 := Lib.hid hz0; have HZ1 := Lib.hid hz1; have HZ2 := Lib.hid hz2
  clear hi0 hz0 hz1 hz2
  go_cut [25] (fun s25 wx => s25 = .bool (decide (t < 0) || decide (63 < t)) ∧ wx = w8)
  case first =>
    cases h1 : decide (t < 0)
    · go_wp2_with fail
      go_meet
      case rel => exact ⟨by rw [h1]; rfl, rfl⟩
    · go_wp2_with fail
      go_meet
      case rel => exact ⟨by rw [h1]; rfl, rfl⟩
  case rest =>
  obtain ⟨rfl, hwc⟩ := hcut
  subst hwc
  go_upto_if 25 with (fail)
  go_cut [8] (fun v8 wx => TVS w wx B R V s x q gb g v8)
  case first =>
    cases hb : (decide (t < 0) || decide (63 < t))
    · clear hb
      go_wp2_with fail
      go_meet
      case rel => exact HST.out
    · have hout : t < 0 ∨ 63 < t := by simpa using hb
      have HO := Lib.hid hout
      clear hb hout
      have hnt := newtake_out t HO.out wc
      have hq9 := HST.out
      go_wp2_with (first
        | (go_at_call 18; with_reducible refine hnt.mono ?_; rintro e w9 ⟨rfl, t9, b9⟩; have HT9 := Lib.hid t9; have HB9 := Lib.hid b9; have hr9 := own_fr HROW.out.1 (below_fr b9 (fun _ => false) false) rfl; clear t9 b9 hnt hq9)
        | (at_builtin; refine wpList_append_own _ rfl _ _ 59 rfl g 54 i0 (.pointer none) 1 8 Tryz.underlying59 HI.out HZ0.out HZ1.out HZ2.out rfl (by decide) _ _ _ rfl (hr9.alloc _) ⟨_, 0, none⟩ 1 1 [.pointer (some ⟨wc.heap.size, 0, none⟩)] rfl rfl ?c1 ?c2 ?c3 ?c4 ?c5 ?_))
      case c1 => exact news_one _ _ _ _ rfl
      case c2 => simp [Value.oneCell']
      case c3 => unfold maxLen; omega
      case c4 => omega
      case c5 =>
        have h1 := HB9.out.size; have h2 := HROW.out.2
        simp; omega
      intro v' w11 hown' hgrow _
      have hlt9 : g < w9.heap.size := Nat.lt_of_lt_of_le HROW.out.2 HB9.out.size
      have hb10 := below_alloc w9 (.cells #[.pointer (some ⟨wc.heap.size, 0, none⟩)] 54)
      have hb910 : Below wc.heap.size wc (w9.alloc (.cells #[.pointer (some ⟨wc.heap.size, 0, none⟩)] 54)) := HB9.out.trans (hb10.mono HB9.out.size)
      have hgr : (w9.alloc (.cells #[.pointer (some ⟨wc.heap.size, 0, none⟩)] 54)).grownBy w11 (some g) := hgrow
      have HREL : Hid (TVS w w11 B R V s x q gb g v') := by
        obtain ⟨n, xs, h1, h2, h3, h4, h5, h6⟩ := HST.out
        obtain ⟨cs, fr, hgc⟩ : ∃ cs fr, (w9.alloc (.cells #[.pointer (some ⟨wc.heap.size, 0, none⟩)] 54)).heap[g]? = some (.cells cs 54 fr) := by
          obtain ⟨-, ⟨h, -⟩ | ⟨g', c', u', h, -, hg, -⟩⟩ := hr9.alloc (.cells #[.pointer (some ⟨wc.heap.size, 0, none⟩)] 54)
          · cases h
          · cases h; exact ⟨_, _, hg⟩
        have hfr := (below_fr hb910 (fun T => T == 54) false).trans (grown_fr hgc hgr)
        have hB : Below w.heap.size w w11 := (h4.ws.below.trans (hb910.mono h4.ws.below.size)).grown hgr (Nat.le_trans h4.ws.below.size hb910.size) (fun k hk => by cases hk; have := HQG.out.1; have := HWQ.out; omega)
        refine ⟨5, _, Nat.le_refl _, hown', fun y hy => ?_, ⟨h4.ws.fr hfr takeTy_w hB, h4.rd.fr hfr takeTy_r hB, h4.al⟩, hfr.cells _ _ _ _ h5 rfl, hfr.cells _ _ _ _ h6 rfl⟩
        rcases List.mem_append.1 hy with hy | hy
        · exact (HVT.out y hy).keep fun b t' _ hT => (hfr.cells _ _ _ _ hT rfl).trans hT.symm
        · simp only [List.mem_cons, List.not_mem_nil, or_false] at hy
          subst hy
          exact .inr ⟨_, _, rfl, (grown_fr hgc hgr).cells _ _ _ _ (HT9.out.below hb10) rfl⟩
      have hwo := waits_out B.wb t HO.out w11
      have c0 : w11.cell? ⟨q, 0, none⟩ = some (.pointer (some ⟨B.wb, 0, none⟩)) := by
        obtain ⟨n, xs, h1, h2, h3, h4, h5, h6⟩ := HREL.out
        exact hcell h5 0
      clear hown' hgrow hgr hb10 hb910 hlt9 hr9
      go_wp2_with (go_at_call 19; with_reducible refine hwo.mono ?_; rintro e w' ⟨rfl, hw⟩; obtain rfl := hw.symm; clear hwo)
      go_meet
      case rel => exact HREL.out
  case rest =>
  clear HST HROW HQG HVT HI HZ0 HZ1 HZ2 HWQ
  obtain ⟨n, xs, hn5, hrow, hvt, hpr, hq, hgv⟩ := hcut
  obtain ⟨a, cap, rfl⟩ := own_sl hrow
  have HROW := Lib.hid hrow; have HVT := Lib.hid hvt; have HPR2 := Lib.hid hpr; have HQ := Lib.hid hq; have HGV := Lib.hid hgv
  clear hrow hvt hpr hq hgv
  go_wp2_with fail
  go_loopw [9] (fun i9 wr => ∃ i : Nat, i ≤ n ∧ i9 = .int .i64 i ∧ Below wc.heap.size wc wr) (fun i9 _ => n - (intOf i9).toNat)
  case atStart => exact ⟨0, by omega, rfl, Below.refl _ _⟩
  case round =>
    obtain ⟨i, hi, rfl, hb⟩ := hrel
    by_cases hlt : i < n
    · have hlt' : (i : Int) < n := by omega
      obtain ⟨g', cap', y, hv, hy, hyc, -⟩ := own_at (own_fr HROW.out (below_fr hb (fun _ => false) false) rfl) i hlt
      simp only [Value.slice.injEq, true_and] at hv
      obtain ⟨rfl, rfl⟩ := hv
      have hvy := (HVT.out y (List.mem_of_getElem? hy)).below hb
      have hgot := hvy.got
      have HY := Lib.hid hvy; have HB := Lib.hid hb; have HYC := Lib.hid hyc
      clear hvy hb hy
      go_upto_region 15 with (go_at_call 20; with_reducible refine hgot.mono ?_; rintro e w12 ⟨rfl, b12⟩; have HB12 := Lib.hid b12; clear hgot b12)
      have hq12 := ((HB.out.trans (HB12.out.mono HB.out.size)).block _ (Array.getElem?_eq_some_iff.1 HQ.out).1).trans HQ.out
      have z0 := fun st : ExtW w12 => st.cell (hcell hq12 0)
      have z1 := fun st : ExtW w12 => st.cell ((HB12.out.cell (World.block_lt_of_cell? _ _ HYC.out)).trans HYC.out)
      have m1 := fun st : ExtW w12 => (((HY.out.below HB12.out).below st.below).over).mono fun e w' (h : _ ∧ _) => And.intro h.1 h.2.symm
      have m2 := fun st : ExtW w12 => (((HY.out.below HB12.out).below st.below).step (u := .pointer (some ⟨B.wb, 0, none⟩)) (.inr ⟨_, rfl⟩)).mono fun e w' (h : _ ∧ _) => And.intro h.1 h.2.symm
      have m3 := fun st : ExtW w12 => (((HY.out.below HB12.out).below st.below).step (u := .pointer none) (.inl rfl)).mono fun e w' (h : _ ∧ _) => And.intro h.1 h.2.symm
      clear hq12 hyc
      refine wp_region_ext (by kernel_rfl) (by kernel_rfl) ?_
      repeat (go_big_quiet_step (first
        | (go_at_call 21; with_reducible refine calls_ext_same (m1 _))
        | (go_at_call 22; with_reducible refine calls_ext_same (m2 _))
        | (go_at_call 22; with_reducible refine calls_ext_same (m3 _))))
      refine wpQuiet_nil ?_
      rintro W13 ⟨⟨W14, hW⟩, rfl⟩
      clear z0 z1 m1 m2 m3
      have HBN : Hid (Below wc.heap.size wc W13) := (HB.out.trans (HB12.out.mono HB.out.size)).trans (hW.mono (Nat.le_trans HB.out.size HB12.out.size))
      clear hW
      go_wp2
      go_roundw
      case rel => exact ⟨i + 1, by omega, by go_num, HBN.out⟩
      case measure => simp [intOf]; omega
    · obtain rfl : i = n := by omega
      have HP := Lib.hid (HPR2.out.keep hb)
      have HQQ := Lib.hid ((hb.block _ (Array.getElem?_eq_some_iff.1 HQ.out).1).trans HQ.out)
      have hgv := (hb.block _ HGV.out.lt).trans HGV.out
      have c0 : wr.cell? ⟨q, 0, none⟩ = some (.pointer (some ⟨B.wb, 0, none⟩)) := hcell HQQ.out 0
      have o1 := gover hgv true rfl
      have o2 := gstep_void hgv (.pointer (some ⟨B.wb, 0, none⟩))
      have o3 := gover_nil wr
      have o4 := gstep_nil (.pointer (some ⟨B.wb, 0, none⟩)) wr
      have o5 := waits_none t wr
      clear hgv hb
      go_upto_region 21 with (first
        | (go_at_call 23; with_reducible refine o1.mono ?_; rintro e w' ⟨rfl, hw⟩; obtain rfl := hw.symm; clear o1)
        | (go_at_call 24; with_reducible refine o2.mono ?_; rintro e w' ⟨rfl, hw⟩; obtain rfl := hw.symm; clear o2)
        | (go_at_call 23; with_reducible refine o3.mono ?_; rintro e w' ⟨rfl, hw⟩; obtain rfl := hw.symm; clear o3)
        | (go_at_call 24; with_reducible refine o4.mono ?_; rintro e w' ⟨rfl, hw⟩; obtain rfl := hw.symm; clear o4)
        | (go_at_call 19; with_reducible refine o5.mono ?_; rintro e w' ⟨rfl, hw⟩; obtain rfl := hw.symm; clear o5 c0)
        | (go_at_call 18; refine (newtake_in 5 (by decide) wr).mono ?_; rintro e w15 ⟨rfl, t15, b15⟩; have HT15 := Lib.hid t15; have HB15 := Lib.hid b15; clear t15 b15)
        | (go_at_call 25; refine (newgive w15).mono ?_; rintro e w16 ⟨rfl, g16, b16⟩; have HG16 := Lib.hid g16; have HB16 := Lib.hid b16; clear g16 b16))
      have hb16 : Below wr.heap.size wr w16 := HB15.out.trans (HB16.out.mono HB15.out.size)
      have ht16 := HT15.out.below HB16.out
      have hq16 := (hb16.block _ (Array.getElem?_eq_some_iff.1 HQQ.out).1).trans HQQ.out
      have HP16 := Lib.hid (HP.out.keep hb16)
      have p0 := hcell hq16 0
      have p1 := hcell hq16 1
      have o1 := tstep_nil ht16
      have o2 := tover ht16 false (by simp)
      have o3 := gstep_no HG16.out
      have o4 := gover HG16.out false rfl
      have o5 := psall_any HP16.out HV.out.2 (by rw [HV.out.1]; exact Nat.zero_le _) (by have := HFAR.out.1; omega)
      clear hb16 ht16 hq16
      go_wp2_with (first
        | (go_at_call 22; with_reducible refine o1.mono ?_; rintro e w' ⟨rfl, hw⟩; obtain rfl := hw.symm; clear o1)
        | (go_at_call 21; with_reducible refine o2.mono ?_; rintro e w' ⟨rfl, hw⟩; obtain rfl := hw.symm; clear o2)
        | (go_at_call 24; with_reducible refine o3.mono ?_; rintro e w' ⟨rfl, hw⟩; obtain rfl := hw.symm; clear o3)
        | (go_at_call 23; with_reducible refine o4.mono ?_; rintro e w' ⟨rfl, hw⟩; obtain rfl := hw.symm; clear o4)
        | (go_at_call 15; with_reducible refine o5.mono ?_; rintro e w17 ⟨rfl, b17⟩; have HB17 := Lib.hid b17; clear o5 b17 p0 p1)
        | (go_at_call 26; refine (lives11 _).mono ?_; rintro e w18 ⟨rfl, b18⟩))
      go_ret
      exact ⟨rfl, (HP16.out.ws.below.trans (HB17.out.mono HP16.out.ws.below.size)).trans (b18.mono (Nat.le_trans HP16.out.ws.below.size HB17.out.size))⟩
theorem walkTicketsVoid (w : World) (t : Int) (ht : (Lit.int .i64 t).wf = true) : Calls Tryz.prog 4 #[.int .i64 t] w fun e w' => e = .returned (.bool true) ∧ Below w.heap.size w w' := tvoid_any t ht w
end Go.Proofs.YteofdldlmmkgbaaGreat
