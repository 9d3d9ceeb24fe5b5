/-
  Texts of this prover, merged: Arr, PairSame, PairAll, OwnRow, Grown.
-/
import Derived.Test.YtddflihgadlafaaGreatBegin0
import Derived.Test.YtddflihgadlafaaGreatPairPut
import Derived.Test.YtddflihgadlafaaGreatM1
import Derived.Test.YtddflihgadlafaaGreatLib
import Derived.Test.YtddflihgadlafaaGreatFrame
import Derived.ChangeKeysEq
import Derived.Deep.MidRow
import Derived.Deep.AppendLies
/-
  Two arrays of integers by value: read from memory, held against each other.
-/
namespace Go.Proofs.YtddflihgadlafaaGreat
open Go.RowKit
set_option linter.unusedVariables false

theorem eqItems_ints {P : Program} {E : TypeId} {ik : IntKind} {inf : TypeInfo} (hE : P.underlying E = some (.int ik)) (hi : P.info? E = some inf) (hs : inf.size = 1) (d : Nat) (xs ys : List Int) (w : World) :
    ∀ is : List Nat, (∀ i ∈ is, i < xs.length ∧ i < ys.length) → (Op.eqItems (d + 1) E 1 (xs.map (Value.int ik)).toArray (ys.map (Value.int ik)).toArray is).run P w = .ok (is.all fun i => xs.getD i 0 == ys.getD i 0) w
  | [], _ => by simp [Op.eqItems]
  | i :: is, h => by
    have ih := eqItems_ints hE hi hs d xs ys w is (fun j hj => h j (List.mem_cons_of_mem _ hj))
    obtain ⟨h1, h2⟩ := h i List.mem_cons_self
    have p1 : (part E (xs.map (Value.int ik)).toArray (i * 1)).run P w = .ok (.int ik (xs.getD i 0)) w := by
      simp [part, isAgg, run_underlying hE, h1, List.getD_eq_getElem?_getD]
    have p2 : (part E (ys.map (Value.int ik)).toArray (i * 1)).run P w = .ok (.int ik (ys.getD i 0)) w := by
      simp [part, isAgg, run_underlying hE, h2, List.getD_eq_getElem?_getD]
    have e := run_equalIn_int w d E ik ik (xs.getD i 0) (ys.getD i 0) hE
    simp only [Op.eqItems, Sem.run_bind, p1, p2, e, Result.andThen_ok, List.all_cons]
    cases hb : (xs.getD i 0 == ys.getD i 0)
    · simp
    · simpa [hb] using ih
theorem all_eq (xs ys : List Int) (n : Nat) (h1 : xs.length = n) (h2 : ys.length = n) : ((List.range n).all fun i => xs.getD i 0 == ys.getD i 0) = (xs == ys) := by
  rw [Bool.eq_iff_iff, List.all_eq_true, beq_iff_eq]
  constructor
  · intro h
    refine List.ext_getElem (by omega) fun i hi hj => ?_
    have := h i (List.mem_range.2 (by omega))
    simpa [List.getD_eq_getElem?_getD, hi, hj] using this
  · rintro rfl i _
    simp
/-- Two arrays of integers, held against each other. -/
theorem run_eq_ints {P : Program} {T E n : Nat} {ik : IntKind} {inf : TypeInfo} (hT : P.underlying T = some (.array n E)) (hE : P.underlying E = some (.int ik)) (hi : P.info? E = some inf) (hs : inf.size = 1) (hc : P.cellsOf E = 1) (d : Nat) (xs ys : List Int) (h1 : xs.length = n) (h2 : ys.length = n) (w : World) :
    (Op.equalIn (d + 2) T (.agg (xs.map (Value.int ik)).toArray) (.agg (ys.map (Value.int ik)).toArray)).run P w = .ok (xs == ys) w := by
  rw [run_equalIn_array w (d + 1) _ _ hT hi, hc, eqItems_ints hE hi hs d xs ys w _ (fun i hi => by have := List.mem_range.1 hi; omega), all_eq xs ys n h1 h2]
theorem tick_eq (xs ys : List Int) (h1 : xs.length = 64) (h2 : ys.length = 64) (w : World) : (Op.equalIn 10000 120 (.agg (tkV xs).toArray) (.agg (tkV ys).toArray)).run Tryz.prog w = .ok (xs == ys) w := by
  obtain ⟨inf, hi, hs⟩ : ∃ inf, Tryz.prog.info? 37 = some inf ∧ inf.size = 1 := by
    have h : (Tryz.prog.info? 37).map (·.size) = some 1 := by kernel_rfl
    cases hh : Tryz.prog.info? 37 with
    | none => simp [hh] at h
    | some inf => exact ⟨inf, rfl, by simpa [hh] using h⟩
  exact run_eq_ints (P := Tryz.prog) (ik := .u64) Tryz.underlying120 Tryz.underlying37 hi hs (by kernel_rfl) 9998 xs ys h1 h2 w
theorem tk_range {W : World} {b T : Nat} {B : WB} {V : WV} (h : W.heap[b]? = some (.cells (B.val V) T (0, 0))) (ht : V.tk.length = 64) : W.rangeAt b 8 (tkV V.tk) := fun j v hv => by
  have hj : j < 64 := by
    have := (List.getElem?_eq_some_iff.1 hv).1
    simpa [tkV, ht] using this
  have h1 : W.cell? ⟨b, 8 + j, none⟩ = (B.val V)[8 + j]? := by unfold World.cell?; simp only; rw [h]; rfl
  rw [h1, val_tkat B V ht j hj, ← hv]
  simp [tkV, List.getD_eq_getElem?_getD, ht, hj]
theorem tk_load {W : World} {b T : Nat} {B : WB} {V : WV} (h : W.heap[b]? = some (.cells (B.val V) T (0, 0))) (ht : V.tk.length = 64) : (Instr.loadAt 120 (.pointer (some ⟨b, 8, none⟩))).run Tryz.prog W = .ok (.agg (tkV V.tk).toArray) W :=
  run_loadAt_mid W b 8 _ (tkV V.tk) _ (tk_range h ht) Tryz.underlying120 rfl (by rw [show (tkV V.tk).length = 64 by simp [tkV, ht]]; kernel_rfl)
theorem quiet_load {P : Program} {C : World → Prop} {o : Oper} {a : Act} {K : Act → Prop} (ty : TypeId) (x : Operand) (ho : o.op = .load ty x) (p v : Value) (hx : a.eval x = p) (hl : ∀ w, C w → (Instr.loadAt ty p).run P w = .ok v w) (hk : K (a.put o.dst v)) : o.quiet P a C K :=
  ⟨v, fun w hw => by
    unfold Oper.quietAt execOp
    simp only [ho, hx, Sem.run_bind, hl w hw, Result.andThen_ok, Sem.run_pure]
    exact ⟨rfl, rfl⟩, hk⟩
end Go.Proofs.YtddflihgadlafaaGreat

/-
  Pair.Same: both are as far.
-/
namespace Go.Proofs.YtddflihgadlafaaGreat
open Go.RowKit Go.Maps
set_option linter.unusedVariables false

theorem own_sl {w : World} {base e size n : Nat} {v : Value} {xs : List Value} (h : w.ownsRow base e size v n xs) : ∃ a cap, v = .slice a n cap := by
  obtain ⟨h1, ⟨rfl, rfl⟩ | ⟨g, cap, cur, hv, r⟩⟩ := h
  · exact ⟨_, _, rfl⟩
  · exact ⟨_, _, hv⟩
theorem notes_any {w : World} {base nb TN : Nat} {l : List Nte} (h : NL w base nb 277 TN .u8 l) : ∃ a cap, w.cell? ⟨nb, 0, none⟩ = some (.slice a l.length cap) ∧ Calls Tryz.prog 144 #[.pointer (some ⟨nb, 0, none⟩)] w fun e w' => e = .returned (.slice a l.length cap) ∧ w' = w := by
  obtain ⟨v, h1, h2, h3⟩ := h
  obtain ⟨a, cap, rfl⟩ := own_sl h3
  have c0 : w.cell? ⟨nb, 0, none⟩ = some (.slice a l.length cap) := hcell h1 0
  refine ⟨a, cap, c0, ?_⟩
  clear h1 h2 h3
  go_enter Tryz.func144, Tryz.ntmps144
  go_wp2
  go_ret
  exact ⟨rfl, rfl⟩
theorem ncount_any {w : World} {base nb TN : Nat} {l : List Nte} (h : NL w base nb 277 TN .u8 l) : Calls Tryz.prog 81 #[.pointer (some ⟨nb, 0, none⟩)] w fun e w' => e = .returned (.int .i64 l.length) ∧ w' = w := by
  obtain ⟨a, cap, -, hn⟩ := notes_any h
  clear h
  go_enter Tryz.func81, Tryz.ntmps81
  go_wp2_with (go_at_call 144; refine hn.mono ?_; rintro e w' ⟨rfl, rfl⟩)
  go_ret
  exact ⟨rfl, rfl⟩
section
variable {w0 w : World} {B R : WB} {V : WV} {s : CS} {x : RS}
theorem WS.last (h : WS w0 w B V s) : Calls Tryz.prog 80 #[.pointer (some ⟨B.cb, 0, none⟩)] w fun e w' => e = .returned (.agg #[.int .u8 s.kind, .int .u64 s.addr, .int .u64 s.was, .int .u64 s.is]) ∧ Below w.heap.size w w' := by
  obtain ⟨⟨S, hS⟩, hB⟩ := h.own
  exact last_any w _ B.cb s S hS
theorem WS.icount (h : WS w0 w B V s) : Calls Tryz.prog 82 #[.pointer (some ⟨B.ib, 0, none⟩)] w fun e w' => e = .returned (.int .i64 V.its.length) ∧ w = w' := by
  obtain ⟨S, hS⟩ := h.ar
  exact count_arena _ _ _ S w hS
theorem RD.icount (h : RD w0 w R V x) : Calls Tryz.prog 69 #[.pointer (some ⟨R.ib, 0, none⟩)] w fun e w' => e = .returned (.int .i64 V.its.length) ∧ w = w' := by
  obtain ⟨S, hS⟩ := h.ar
  exact rcount_arena _ _ _ S w hS
theorem WS.hd (h : WS w0 w B V s) : w.cell? ⟨B.wb, 0, none⟩ = some (.pointer (some ⟨B.cb, 0, none⟩)) ∧ w.cell? ⟨B.wb, 1, none⟩ = some (.pointer (some ⟨B.ib, 0, none⟩)) ∧ w.cell? ⟨B.wb, 2, none⟩ = some (.pointer (some ⟨B.nb, 0, none⟩)) ∧ w.cell? ⟨B.wb, 72, none⟩ = some (.int .i64 V.hd) :=
  ⟨h.c0, (h.cell 1).trans (val_at B V h.tkl).2.1, (h.cell 2).trans (val_at B V h.tkl).2.2.1, (h.cell 72).trans (val_at B V h.tkl).2.2.2.2.2⟩
theorem RD.hd (h : RD w0 w R V x) : w.cell? ⟨R.wb, 0, none⟩ = some (.pointer (some ⟨R.cb, 0, none⟩)) ∧ w.cell? ⟨R.wb, 1, none⟩ = some (.pointer (some ⟨R.ib, 0, none⟩)) ∧ w.cell? ⟨R.wb, 2, none⟩ = some (.pointer (some ⟨R.nb, 0, none⟩)) ∧ w.cell? ⟨R.wb, 72, none⟩ = some (.int .i64 V.hd) :=
  ⟨h.c0, (h.cell 1).trans (val_at R V h.tkl).2.1, (h.cell 2).trans (val_at R V h.tkl).2.2.1, (h.cell 72).trans (val_at R V h.tkl).2.2.2.2.2⟩
theorem RD.lastc (h : RD w0 w R V x) : w.cell? ⟨R.cb, 2, none⟩ = some (.int .u8 x.kind) ∧ w.cell? ⟨R.cb, 3, none⟩ = some (.int .u64 x.addr) ∧ w.cell? ⟨R.cb, 4, none⟩ = some (.int .u64 x.was) ∧ w.cell? ⟨R.cb, 5, none⟩ = some (.int .u64 x.is) := by
  obtain ⟨lv, hr⟩ := h.ref
  exact ⟨hr.cell 2, hr.cell 3, hr.cell 4, hr.cell 5⟩
set_option maxRecDepth 10000 in
set_option maxHeartbeats 2000000 in
theorem psame_any (h : Pr w0 w B R V s x) : Calls Tryz.prog 16 #[.agg #[.pointer (some ⟨B.wb, 0, none⟩), .pointer (some ⟨R.wb, 0, none⟩)]] w fun e w' => e = .returned (.bool true) ∧ Below w.heap.size w w' := by
  have hq0 := heap_alloc_new w (.cells #[.pointer (some ⟨B.wb, 0, none⟩), .pointer (some ⟨R.wb, 0, none⟩)] 34)
  have hB1 := below_alloc w (.cells #[.pointer (some ⟨B.wb, 0, none⟩), .pointer (some ⟨R.wb, 0, none⟩)] 34)
  have H1 := Lib.hid (h.keep hB1); have HQ := Lib.hid hq0; have HB1 := Lib.hid hB1
  have hal := h.al
  have htq := tick_eq V.tk V.tk h.ws.tkl h.ws.tkl
  rw [show (V.tk == V.tk) = true from beq_self_eq_true _] at htq
  have HTQ := Lib.hid htq
  clear h hq0 hB1 htq
  go_enter Tryz.func16, Tryz.ntmps16
  go_upto_region 1 with (fail)
  change Code.wp _ _ _ _ (w.alloc (.cells #[.pointer (some ⟨B.wb, 0, none⟩), .pointer (some ⟨R.wb, 0, none⟩)] 34))
  generalize w.alloc (.cells #[.pointer (some ⟨B.wb, 0, none⟩), .pointer (some ⟨R.wb, 0, none⟩)] 34) = w1 at *
  have p0 : w1.cell? ⟨w.heap.size, 0, none⟩ = some (.pointer (some ⟨B.wb, 0, none⟩)) := hcell HQ.out 0
  have p1 : w1.cell? ⟨w.heap.size, 1, none⟩ = some (.pointer (some ⟨R.wb, 0, none⟩)) := hcell HQ.out 1
  have HAL := Lib.hid hal
  clear hal
  go_upto_region 3 with (fail)
  have q0 := fun st : ExtW w1 => st.cell p0
  have q1 := fun st : ExtW w1 => st.cell p1
  obtain ⟨c0, c1, c2, c72⟩ := H1.out.ws.hd
  obtain ⟨r0, r1, r2, r72⟩ := H1.out.rd.hd
  obtain ⟨l2, l3, l4, l5⟩ := H1.out.rd.lastc
  rw [← HAL.out.kind] at l2; rw [← HAL.out.addr] at l3; rw [← HAL.out.was] at l4; rw [← HAL.out.is] at l5
  obtain ⟨nv, hn1, hn2, hn3⟩ := H1.out.rd.nt
  obtain ⟨na, ncap, hnv⟩ := own_sl hn3
  subst hnv
  have n0 : w1.cell? ⟨R.nb, 0, none⟩ = some (.slice na V.nts.length ncap) := hcell hn1 0
  have d0 := fun st : ExtW w1 => st.cell c0
  have d1 := fun st : ExtW w1 => st.cell c1
  have d2 := fun st : ExtW w1 => st.cell c2
  have d3 := fun st : ExtW w1 => st.cell c72
  have g0 := fun st : ExtW w1 => st.cell r0
  have g1 := fun st : ExtW w1 => st.cell r1
  have g2 := fun st : ExtW w1 => st.cell r2
  have g3 := fun st : ExtW w1 => st.cell r72
  have k2 := fun st : ExtW w1 => st.cell l2
  have k3 := fun st : ExtW w1 => st.cell l3
  have k4 := fun st : ExtW w1 => st.cell l4
  have k5 := fun st : ExtW w1 => st.cell l5
  have m0 := fun st : ExtW w1 => st.cell n0
  have hs1 := fun st : ExtW w1 => (steps_any (H1.out.keep st.below).ws.wld).mono fun e w' (h : _ ∧ _) => And.intro h.1 h.2.symm
  have hs2 := fun st : ExtW w1 => (rwsteps (H1.out.keep st.below).rd).mono fun e w' (h : _ ∧ _) => And.intro h.1 h.2.symm
  rw [← HAL.out.cnt] at hs2
  have hls := fun st : ExtW w1 => (H1.out.keep st.below).ws.last
  have hnc := fun st : ExtW w1 => (ncount_any (H1.out.keep st.below).ws.nt).mono fun e w' (h : _ ∧ _) => And.intro h.1 h.2.symm
  have hic := fun st : ExtW w1 => (H1.out.keep st.below).ws.icount
  have hri := fun st : ExtW w1 => (H1.out.keep st.below).rd.icount
  have ht1 := fun st : ExtW w1 => tk_load (H1.out.keep st.below).ws.blk (H1.out.keep st.below).ws.tkl
  have ht2 := fun st : ExtW w1 => tk_load (H1.out.keep st.below).rd.blk (H1.out.keep st.below).rd.tkl
  have htq := fun W => HTQ.out W
  clear p0 p1 c0 c1 c2 c72 r0 r1 r2 r72 l2 l3 l4 l5 n0 hn1 hn2 hn3
  simp only [List.append_eq, List.cons_append, List.nil_append]
  refine wp_region_ext (by kernel_rfl) (by kernel_rfl) ?_
  repeat (go_big_quiet_step (first
    | (go_at_call 58; with_reducible refine calls_ext_same (hs1 _))
    | (go_at_call 79; with_reducible refine calls_ext_same (hs2 _))
    | (go_at_call 80; with_reducible refine calls_ext (hls _))
    | (go_at_call 81; with_reducible refine calls_ext_same (hnc _))
    | (go_at_call 82; with_reducible refine calls_ext_same (hic _))
    | (go_at_call 69; with_reducible refine calls_ext_same (hri _))))
  go_big_quiet_want
  refine quiet_load 120 _ rfl _ (.agg (tkV V.tk).toArray) rfl (fun W hW => ?_) ?_
  · obtain ⟨st, rfl⟩ := hW
    exact ht1 st
  go_frame
  go_big_quiet_on
  repeat (go_big_quiet_step (fail))
  go_big_quiet_want
  refine quiet_load 120 _ rfl _ (.agg (tkV V.tk).toArray) rfl (fun W hW => ?_) ?_
  · obtain ⟨st, rfl⟩ := hW
    exact ht2 st
  go_frame
  go_big_quiet_on
  repeat (go_big_quiet_step (fail))
  refine wpQuiet_nil ?_
  rintro W2 ⟨⟨W3, hW⟩, rfl⟩
  clear q0 q1 d0 d1 d2 d3 g0 g1 g2 g3 k2 k3 k4 k5 m0 hs1 hs2 hls hnc hic hri ht1 ht2 htq
  go_wp2
  go_ret
  exact ⟨rfl, HB1.out.trans (hW.mono HB1.out.size)⟩
end
end Go.Proofs.YtddflihgadlafaaGreat

/-
  Pair.SameAll, where nothing was noted.
-/
namespace Go.Proofs.YtddflihgadlafaaGreat
open Go.RowKit Go.Maps
set_option linter.unusedVariables false

theorem nclip_nil (w : World) : Calls Tryz.prog 208 #[.slice none 0 0] w fun e w' => e = .returned (.slice none 0 0) ∧ w' = w := by
  go_enter Tryz.func208, Tryz.ntmps208
  go_wp2
  go_ret
  exact ⟨rfl, rfl⟩
theorem picked_nil {w : World} {base nb TN : Nat} (h : NL w base nb 277 TN .u8 []) (g : Value) : Calls Tryz.prog 182 #[.pointer (some ⟨nb, 0, none⟩), g] w fun e w' => e = .returned (.slice none 0 0) ∧ Below w.heap.size w w' := by
  obtain ⟨a, cap, -, hn⟩ := notes_any h
  clear h
  go_enter Tryz.func182, Tryz.ntmps182
  go_wp2_with (go_at_call 144; refine hn.mono ?_; rintro e w' ⟨rfl, rfl⟩)
  refine wp_loop_rounds 1 ?_
  rw [rounds_succ]
  go_wp2_with (go_at_call 208; refine (nclip_nil _).mono ?_; rintro e w' ⟨rfl, rfl⟩)
  go_ret
  exact ⟨rfl, Below.refl _ _⟩
theorem since_nil {w : World} {base nb TN : Nat} (h : NL w base nb 277 TN .u8 []) (n : Int) : Calls Tryz.prog 136 #[.pointer (some ⟨nb, 0, none⟩), .int .i64 n] w fun e w' => e = .returned (.slice none 0 0) ∧ Below w.heap.size w w' := by
  have hb := below_alloc w (.cells #[.int .i64 n] 3)
  have hp := fun g => picked_nil (h.fr (below_fr hb (fun _ => false) false) rfl rfl) g
  clear h
  go_enter Tryz.func136, Tryz.ntmps136
  go_wp2_with (go_at_call 182; refine (hp _).mono ?_; rintro e w' ⟨rfl, b⟩)
  go_ret
  exact ⟨rfl, hb.trans (b.mono hb.size)⟩
theorem all_nil {w : World} {base nb TN : Nat} (h : NL w base nb 277 TN .u8 []) : Calls Tryz.prog 68 #[.pointer (some ⟨nb, 0, none⟩)] w fun e w' => e = .returned (.slice none 0 0) ∧ Below w.heap.size w w' := by
  have hp := since_nil h 0
  clear h
  go_enter Tryz.func68, Tryz.ntmps68
  go_wp2_with (go_at_call 136; refine hp.mono ?_; rintro e w' ⟨rfl, b⟩)
  go_ret
  exact ⟨rfl, b⟩
section
variable {w0 w : World} {B R : WB} {V : WV} {s : CS} {x : RS}
theorem WS.iat (h : WS w0 w B V s) (hl : V.its.length ≤ 1048576) (r : Int) : Calls Tryz.prog 70 #[.pointer (some ⟨B.ib, 0, none⟩), .int .i64 r] w fun e w' => e = .returned (.tuple #[.agg #[.string ((atOf V.its r).1).key, .string ((atOf V.its r).1).val, .int .u32 ((atOf V.its r).1).flags, .int .u64 ((atOf V.its r).1).id, .int .i64 ((atOf V.its r).1).dies, .int .i64 ((atOf V.its r).1).gen], .bool (atOf V.its r).2]) ∧ Below w.heap.size w w' := by
  obtain ⟨S, hS⟩ := h.ar
  exact iat_any _ _ _ S r w hS hl
theorem RD.iat (h : RD w0 w R V x) (hl : V.its.length ≤ 1048576) (r : Int) : Calls Tryz.prog 71 #[.pointer (some ⟨R.ib, 0, none⟩), .int .i64 r] w fun e w' => e = .returned (.tuple #[.agg #[.string ((atOf V.its r).1).key, .string ((atOf V.its r).1).val, .int .u32 ((atOf V.its r).1).flags, .int .u64 ((atOf V.its r).1).id, .int .i64 ((atOf V.its r).1).dies, .int .i64 ((atOf V.its r).1).gen], .bool (atOf V.its r).2]) ∧ Below w.heap.size w w' := by
  obtain ⟨S, hS⟩ := h.ar
  exact rat_any _ _ _ S r w hS hl

set_option maxRecDepth 10000 in
set_option maxHeartbeats 4000000 in
theorem psall_any (h : Pr w0 w B R V s x) (hV : V.nts = []) (hl : V.its.length ≤ 1000000) (hsn : s.n ≤ 1000000) :
    Calls Tryz.prog 14 #[.agg #[.pointer (some ⟨B.wb, 0, none⟩), .pointer (some ⟨R.wb, 0, none⟩)]] w fun e w' => e = .returned (.bool true) ∧ Below w.heap.size w w' := by
  have hq0 := heap_alloc_new w (.cells #[.pointer (some ⟨B.wb, 0, none⟩), .pointer (some ⟨R.wb, 0, none⟩)] 34)
  have hB1 := below_alloc w (.cells #[.pointer (some ⟨B.wb, 0, none⟩), .pointer (some ⟨R.wb, 0, none⟩)] 34)
  have H1 := Lib.hid (h.keep hB1); have HQ := Lib.hid hq0; have HB1 := Lib.hid hB1; have HV := Lib.hid hV; have HL := Lib.hid hl; have HSN := Lib.hid hsn
  clear h hq0 hB1 hV hl hsn
  go_enter Tryz.func14, Tryz.ntmps14
  go_upto_region 1 with (fail)
  change Code.wp _ _ _ _ (w.alloc (.cells #[.pointer (some ⟨B.wb, 0, none⟩), .pointer (some ⟨R.wb, 0, none⟩)] 34))
  generalize w.alloc (.cells #[.pointer (some ⟨B.wb, 0, none⟩), .pointer (some ⟨R.wb, 0, none⟩)] 34) = w1 at *
  have hq := HQ.out
  have q0 := fun st : ExtW w1 => st.cell (hcell hq 0)
  have q1 := fun st : ExtW w1 => st.cell (hcell hq 1)
  have d0 := fun st : ExtW w1 => st.cell H1.out.ws.hd.1
  have g0 := fun st : ExtW w1 => st.cell H1.out.rd.hd.1
  have hs := fun st : ExtW w1 => psame_any (H1.out.keep st.below)
  have h5 := fun st : ExtW w1 => same05_any (⟨(H1.out.keep st.below).ws.own, (H1.out.keep st.below).rd.ref, (H1.out.keep st.below).al⟩ : Both w0 st.val B.cb R.cb s x) HSN.out
  clear hq
  refine wp_region_ext (by kernel_rfl) (by kernel_rfl) ?_
  repeat (go_big_quiet_step (first
    | (go_at_call 16; with_reducible refine calls_ext (hs _))
    | (go_at_call 67; with_reducible refine calls_ext (h5 _))))
  refine wpQuiet_nil ?_
  rintro W2 ⟨⟨W3, hW⟩, rfl⟩
  have H2 := Lib.hid (H1.out.keep hW)
  have HQ2 := Lib.hid ((hW.block _ (Array.getElem?_eq_some_iff.1 HQ.out).1).trans HQ.out)
  have HB2 : Hid (Below w.heap.size w W2) := HB1.out.trans (hW.mono HB1.out.size)
  clear q0 q1 d0 g0 hs h5 hW H1 HQ HB1
  have p0 := hcell HQ2.out 0
  have p1 := hcell HQ2.out 1
  obtain ⟨c0, c1, c2, c72⟩ := H2.out.ws.hd
  have hnt := H2.out.ws.nt
  rw [HV.out] at hnt
  have hal := all_nil hnt
  clear hnt
  go_upto_region 4 with (go_at_call 68; refine hal.mono ?_; rintro e w4 ⟨rfl, b4⟩; have H4 := Lib.hid (H2.out.keep b4); have HQ4 := Lib.hid ((b4.block _ (Array.getElem?_eq_some_iff.1 HQ2.out).1).trans HQ2.out); have HB4 : Hid (Below w.heap.size w w4) := HB2.out.trans (b4.mono HB2.out.size); clear b4 hal p0 p1 c0 c1 c2 c72)
  clear H2 HQ2 HB2
  have p0 := hcell HQ4.out 0
  have p1 := hcell HQ4.out 1
  obtain ⟨r0, r1, r2, r72⟩ := H4.out.rd.hd
  obtain ⟨nv, hn1, hn2, hn3⟩ := H4.out.rd.nt
  obtain ⟨na, ncap, hnv⟩ := own_sl hn3
  subst hnv
  rw [HV.out] at hn1
  have n0 : w4.cell? ⟨R.nb, 0, none⟩ = some (.slice na 0 ncap) := hcell hn1 0
  clear hn1 hn2 hn3
  go_wp2_with fail
  refine wp_loop_rounds 1 ?_
  rw [rounds_succ]
  go_wp2_with fail
  clear p0 p1 r0 r1 r2 r72 n0
  go_loopw [6] (fun i wr => ∃ k : Nat, k ≤ V.its.length + 2 ∧ i = .int .i64 k ∧ Pr w0 wr B R V s x ∧ wr.heap[w.heap.size]? = some (.cells #[.pointer (some ⟨B.wb, 0, none⟩), .pointer (some ⟨R.wb, 0, none⟩)] 34 (0, 0)) ∧ Below w.heap.size w wr) (fun i _ => V.its.length + 2 - (intOf i).toNat)
  case atStart => exact ⟨0, by omega, rfl, H4.out, HQ4.out, HB4.out⟩
  case round =>
    clear H4 HQ4 HB4
    obtain ⟨k, hk, rfl, h, hq, hB⟩ := hrel
    have p0 := hcell hq 0
    have p1 := hcell hq 1
    obtain ⟨c0, c1, c2, c72⟩ := h.ws.hd
    obtain ⟨r0, r1, r2, r72⟩ := h.rd.hd
    have hri := h.rd.icount
    have hl := HL.out
    by_cases hlt : k ≤ V.its.length + 1
    · have hlt' : (k : Int) ≤ V.its.length + 1 := by omega
      have hia := h.ws.iat (by omega) k
      obtain ⟨yy, hye⟩ : ∃ yy, atOf V.its k = yy := ⟨_, rfl⟩
      rw [hye] at hia
      have HYE := Lib.hid hye
      clear hye
      have HRI := Lib.hid h; have HQ := Lib.hid hq; have HB := Lib.hid hB
      clear h hq hB
      go_upto_region 16 with (first
        | (go_at_call 69; with_reducible refine hri.mono ?_; rintro e w' ⟨rfl, hw⟩; obtain rfl := hw; clear hri)
        | (go_at_call 70; with_reducible refine hia.mono ?_; rintro e w5 ⟨rfl, b5⟩; clear hia p0 p1 c0 c1 c2 c72 r0 r1 r2 r72; have H5 := Lib.hid b5))
      obtain ⟨y, yb⟩ := yy
      simp only []
      have hb6 := below_alloc w5 (.cells y.cells.toArray 39)
      have hy6 : Box (w5.alloc (.cells y.cells.toArray 39)) w5.heap.size y := heap_alloc_new w5 _
      change Code.wp _ _ _ _ (w5.alloc (.cells y.cells.toArray 39))
      generalize w5.alloc (.cells y.cells.toArray 39) = w6 at *
      have hb16 : Below wr.heap.size wr w6 := H5.out.trans (hb6.mono H5.out.size)
      generalize w5.heap.size = qa at *
      have HY6 := Lib.hid hy6
      have H6 := Lib.hid (HRI.out.keep hb16)
      have HQ6 := Lib.hid ((hb16.block _ (Array.getElem?_eq_some_iff.1 HQ.out).1).trans HQ.out)
      have HB6 : Hid (Below w.heap.size w w6) := HB.out.trans (hb16.mono HB.out.size)
      have p1 := hcell HQ6.out 1
      have r1 := H6.out.rd.hd.2.1
      have hrb := H6.out.rd.iat (by have := HL.out; omega) k
      rw [HYE.out] at hrb
      clear hb6 hy6 hb16 H5 HRI HQ HB
      go_upto_region 17 with (go_at_call 71; with_reducible refine hrb.mono ?_; rintro e w7 ⟨rfl, b7⟩; clear hrb p1 r1; have H7 := Lib.hid b7)
      have hb8 := below_alloc w7 (.cells y.cells.toArray 39)
      have hy8 : Box (w7.alloc (.cells y.cells.toArray 39)) w7.heap.size y := heap_alloc_new w7 _
      change Code.wp _ _ _ _ (w7.alloc (.cells y.cells.toArray 39))
      generalize w7.alloc (.cells y.cells.toArray 39) = w8 at *
      have hb68 : Below w6.heap.size w6 w8 := H7.out.trans (hb8.mono H7.out.size)
      generalize w7.heap.size = qb at *
      have hya : Box w8 qa y := HY6.out.below hb68
      obtain ⟨a0, a1, a2, a3, a4, a5⟩ := hya.cells
      obtain ⟨e0, e1, e2, e3, e4, e5⟩ := hy8.cells
      have H8 := Lib.hid (H6.out.keep hb68)
      have HQ8 := Lib.hid ((hb68.block _ (Array.getElem?_eq_some_iff.1 HQ6.out).1).trans HQ6.out)
      have HB8 : Hid (Below w.heap.size w w8) := HB6.out.trans (hb68.mono HB6.out.size)
      clear hb8 hb68 hya hy8 H6 HQ6 HB6 HY6 H7
      go_wp2_with fail
      go_roundw
      case rel => exact ⟨k + 1, by omega, by go_num, H8.out, HQ8.out, HB8.out⟩
      case measure => simp [intOf]; omega
    · obtain rfl : k = V.its.length + 2 := by omega
      have hlt' : (V.its.length : Int) + 1 < ((V.its.length + 2 : Nat) : Int) := by omega
      have HB9 := Lib.hid hB
      clear h hq hB
      go_wp2_with (go_at_call 69; with_reducible refine hri.mono ?_; rintro e w' ⟨rfl, hw⟩; obtain rfl := hw; clear hri)
      go_ret
      exact ⟨rfl, HB9.out⟩
end
end Go.Proofs.YtddflihgadlafaaGreat

/-
  Rows that the call made.
-/
namespace Go.Proofs.YtddflihgadlafaaGreat
open Go.RowKit
set_option linter.unusedVariables false

/-- A row of pointers that the call made. -/
theorem own_lit (w : World) (base e : Nat) (xs : List Value) (hb : base ≤ w.heap.size) (hn : xs.length ≤ maxLen) : (w.alloc (.cells xs.toArray e)).ownsRow base e 1 (.slice (some ⟨w.heap.size, 0, none⟩) xs.length xs.length) xs.length xs :=
  ⟨by simp, .inr ⟨_, _, _, rfl, hb, heap_alloc_new w _, Nat.le_refl _, hn, by simp, by simp⟩⟩
theorem own_at {w : World} {base e n : Nat} {v : Value} {xs : List Value} (h : w.ownsRow base e 1 v n xs) (i : Nat) (hi : i < n) : ∃ g cap x, v = .slice (some ⟨g, 0, none⟩) n cap ∧ xs[i]? = some x ∧ w.cell? ⟨g, i, none⟩ = some x ∧ base ≤ g := by
  obtain ⟨h1, ⟨rfl, h0⟩ | ⟨g, cap, cur, rfl, hb, hg, hn, hm, hs, ht⟩⟩ := h
  · omega
  · have hx : i < xs.length := by omega
    refine ⟨g, cap, xs[i], rfl, List.getElem?_eq_getElem hx, ?_, hb⟩
    have e1 : xs[i]? = (cur.toList.take (n * 1))[i]? := by rw [ht]
    rw [List.getElem?_take, if_pos (by omega), List.getElem?_eq_getElem hx] at e1
    unfold World.cell?; simp only; rw [hg]
    simpa using e1.symm
end Go.Proofs.YtddflihgadlafaaGreat

/-
  A row that has grown, in a frame by types.
-/
namespace Go.Proofs.YtddflihgadlafaaGreat
open Go.RowKit
set_option linter.unusedVariables false

theorem own_sl2 {w : World} {base e size n : Nat} {v : Value} {xs : List Value} (h : w.ownsRow base e size v n xs) : ∃ a cap, v = .slice a n cap := by
  obtain ⟨-, ⟨rfl, rfl⟩ | ⟨g, cap, cur, rfl, -⟩⟩ := h
  · exact ⟨none, 0, rfl⟩
  · exact ⟨_, cap, rfl⟩
theorem grown_ty {w w' : World} {base e size n : Nat} {v : Value} {xs : List Value} (h : w.ownsRow base e size v n xs) (hg : w.grownBy w' v.ownBlock) : Fr (fun T => T == e) false w w' := by
  obtain ⟨-, ⟨rfl, -⟩ | ⟨g, cap, cur, rfl, -, hb, -⟩⟩ := h
  · exact ⟨hg.size, fun k cs T fr hk _ => (hg.block k (Array.getElem?_eq_some_iff.1 hk).1 (fun c => by simp [Value.ownBlock] at c)).trans hk, fun _ k es cl hk => (hg.block k (Array.getElem?_eq_some_iff.1 hk).1 (fun c => by simp [Value.ownBlock] at c)).trans hk⟩
  · refine ⟨hg.size, fun k cs T fr hk hT => (hg.block k (Array.getElem?_eq_some_iff.1 hk).1 (fun c => ?_)).trans hk, fun _ k es cl hk => (hg.block k (Array.getElem?_eq_some_iff.1 hk).1 (fun c => ?_)).trans hk⟩
    · simp only [Value.ownBlock, Option.some.injEq] at c
      subst c
      have := hb.symm.trans hk; simp only [Option.some.injEq, Obj.cells.injEq] at this
      rw [this.2.1] at hT; simp at hT
    · simp only [Value.ownBlock, Option.some.injEq] at c
      subst c
      have := hb.symm.trans hk; cases this
theorem grown_below {w0 w w' : World} {B : Nat} {base e size n : Nat} {v : Value} {xs : List Value} (h : w.ownsRow base e size v n xs) (hg : w.grownBy w' v.ownBlock) (hB : Below B w0 w) (hs : B ≤ w.heap.size) (hb : B ≤ base) : Below B w0 w' :=
  hB.grown hg hs fun k hk => by
    obtain ⟨-, ⟨rfl, -⟩ | ⟨g, cap, cur, rfl, hb2, -⟩⟩ := h
    · simp [Value.ownBlock] at hk
    · simp only [Value.ownBlock, Option.some.injEq] at hk; omega
theorem set_ty {w : World} {q T : Nat} {cs : Array Value} (h : w.heap[q]? = some (.cells cs T (0, 0))) (o : Nat) (v : Value) : Fr (fun X => X == T) false w (w.setCell ⟨q, o, none⟩ v) :=
  keeps_fr (setCell_keeps w q o v) _ _ fun k e => ⟨_, _, _, e ▸ h, by simp⟩
theorem set_below {w0 w : World} {B q : Nat} (hB : Below B w0 w) (hs : B ≤ w.heap.size) (hq : B ≤ q) (o : Nat) (v : Value) : Below B w0 (w.setCell ⟨q, o, none⟩ v) :=
  keeps_below (setCell_keeps w q o v) hB hs fun k e => e ▸ hq
theorem ty_or {K1 K2 : TypeId → Bool} {w w' w'' : World} (h1 : Fr K1 false w w') (h2 : Fr K2 false w' w'') : Fr (fun T => K1 T || K2 T) false w w'' :=
  (h1.mono (fun T h => by simp only [Bool.or_eq_false_iff] at h; exact h.1) id).trans (h2.mono (fun T h => by simp only [Bool.or_eq_false_iff] at h; exact h.2) id)
end Go.Proofs.YtddflihgadlafaaGreat
