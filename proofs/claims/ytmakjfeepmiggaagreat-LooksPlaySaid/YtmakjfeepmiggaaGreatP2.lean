/-
  Texts of this prover, merged: Arr, PairSame, SortLay, CellsSort, CellsWords, SameAny, Same05, PairAll, PairAllN, RefMay, WActs, Begin, First, WDo, Plays.
-/
import Derived.Test.YtmakjfeepmiggaaGreatP1
import Derived.Test.YtmakjfeepmiggaaGreatRows
import Derived.Test.YtmakjfeepmiggaaGreatLib
import Derived.Test.YtmakjfeepmiggaaGreatCellsWords0
import Derived.Test.YtmakjfeepmiggaaGreatRefNew
import Derived.Test.YtmakjfeepmiggaaGreatSame
import Derived.Test.YtmakjfeepmiggaaGreatPlacesMay
import Derived.Test.YtmakjfeepmiggaaGreatOpen
import Derived.Test.YtmakjfeepmiggaaGreatItems
import Derived.ChangeKeysEq
import Derived.Deep.MidRow
import Derived.Shelf.SlSortCmp.WholeK
import Derived.Deep.DeepCutAuto
import Derived.Deep.CutBlock
import Derived.Deep.RegionHeld2
/-
  Two arrays of integers by value: read from memory, held against each other.
-/
namespace Go.Proofs.YtmakjfeepmiggaaGreat
open Go.RowKit
set_option linter.unusedVariables false

theorem eqItems_ints {P : Program} {E : TypeId} {ik : IntKind} {inf : TypeInfo} (hE : P.underlying E = some (.int ik)) (hi : P.info? E = some inf) (hs : inf.size = 1) (d : Nat) (xs ys : List Int) (w : World) :
    ∀ is : List Nat, (∀ i ∈ is, i < xs.length ∧ i < ys.length) → (Op.eqItems (d + 1) E 1 (xs.map (Value.int ik)).toArray (ys.map (Value.int ik)).toArray is).run P w = .ok (is.all fun i => xs.getD i 0 == ys.getD i 0) w
  | [], _ => by simp [Op.eqItems]
  | i :: is, h => by
    have ih := eqItems_ints hE hi hs d xs ys w is (fun j hj => h j (List.mem_cons_of_mem _ hj))
    obtain ⟨h1, h2⟩ := h i List.mem_cons_self
    have p1 : (part E (xs.map (Value.int ik)).toArray (i * 1)).run P w = .ok (.int ik (xs.getD i 0)) w := by
      simp [part, isAgg, run_underlying hE, h1, List.getD_eq_getElem?_getD]
    have p2 : (part E (ys.map (Value.int ik)).toArray (i * 1)).run P w = .ok (.int ik (ys.getD i 0)) w := by
      simp [part, isAgg, run_underlying hE, h2, List.getD_eq_getElem?_getD]
    have e := run_equalIn_int w d E ik ik (xs.getD i 0) (ys.getD i 0) hE
    simp only [Op.eqItems, Sem.run_bind, p1, p2, e, Result.andThen_ok, List.all_cons]
    cases hb : (xs.getD i 0 == ys.getD i 0)
    · simp
    · simpa [hb] using ih
theorem all_eq (xs ys : List Int) (n : Nat) (h1 : xs.length = n) (h2 : ys.length = n) : ((List.range n).all fun i => xs.getD i 0 == ys.getD i 0) = (xs == ys) := by
  rw [Bool.eq_iff_iff, List.all_eq_true, beq_iff_eq]
  constructor
  · intro h
    refine List.ext_getElem (by omega) fun i hi hj => ?_
    have := h i (List.mem_range.2 (by omega))
    simpa [List.getD_eq_getElem?_getD, hi, hj] using this
  · rintro rfl i _
    simp
/-- Two arrays of integers, held against each other. -/
theorem run_eq_ints {P : Program} {T E n : Nat} {ik : IntKind} {inf : TypeInfo} (hT : P.underlying T = some (.array n E)) (hE : P.underlying E = some (.int ik)) (hi : P.info? E = some inf) (hs : inf.size = 1) (hc : P.cellsOf E = 1) (d : Nat) (xs ys : List Int) (h1 : xs.length = n) (h2 : ys.length = n) (w : World) :
    (Op.equalIn (d + 2) T (.agg (xs.map (Value.int ik)).toArray) (.agg (ys.map (Value.int ik)).toArray)).run P w = .ok (xs == ys) w := by
  rw [run_equalIn_array w (d + 1) _ _ hT hi, hc, eqItems_ints hE hi hs d xs ys w _ (fun i hi => by have := List.mem_range.1 hi; omega), all_eq xs ys n h1 h2]
theorem tick_eq (xs ys : List Int) (h1 : xs.length = 64) (h2 : ys.length = 64) (w : World) : (Op.equalIn 10000 115 (.agg (tkV xs).toArray) (.agg (tkV ys).toArray)).run Tryz.prog w = .ok (xs == ys) w := by
  obtain ⟨inf, hi, hs⟩ : ∃ inf, Tryz.prog.info? 38 = some inf ∧ inf.size = 1 := by
    have h : (Tryz.prog.info? 38).map (·.size) = some 1 := by kernel_rfl
    cases hh : Tryz.prog.info? 38 with
    | none => simp [hh] at h
    | some inf => exact ⟨inf, rfl, by simpa [hh] using h⟩
  exact run_eq_ints (P := Tryz.prog) (ik := .u64) Tryz.underlying115 Tryz.underlying38 hi hs (by kernel_rfl) 9998 xs ys h1 h2 w
theorem tk_range {W : World} {b T : Nat} {B : WB} {V : WV} (h : W.heap[b]? = some (.cells (B.val V) T (0, 0))) (ht : V.tk.length = 64) : W.rangeAt b 8 (tkV V.tk) := fun j v hv => by
  have hj : j < 64 := by
    have := (List.getElem?_eq_some_iff.1 hv).1
    simpa [tkV, ht] using this
  have h1 : W.cell? ⟨b, 8 + j, none⟩ = (B.val V)[8 + j]? := by unfold World.cell?; simp only; rw [h]; rfl
  rw [h1, val_tkat B V ht j hj, ← hv]
  simp [tkV, List.getD_eq_getElem?_getD, ht, hj]
theorem tk_load {W : World} {b T : Nat} {B : WB} {V : WV} (h : W.heap[b]? = some (.cells (B.val V) T (0, 0))) (ht : V.tk.length = 64) : (Instr.loadAt 115 (.pointer (some ⟨b, 8, none⟩))).run Tryz.prog W = .ok (.agg (tkV V.tk).toArray) W :=
  run_loadAt_mid W b 8 _ (tkV V.tk) _ (tk_range h ht) Tryz.underlying115 rfl (by rw [show (tkV V.tk).length = 64 by simp [tkV, ht]]; kernel_rfl)
theorem quiet_load {P : Program} {C : World → Prop} {o : Oper} {a : Act} {K : Act → Prop} (ty : TypeId) (x : Operand) (ho : o.op = .load ty x) (p v : Value) (hx : a.eval x = p) (hl : ∀ w, C w → (Instr.loadAt ty p).run P w = .ok v w) (hk : K (a.put o.dst v)) : o.quiet P a C K :=
  ⟨v, fun w hw => by
    unfold Oper.quietAt execOp
    simp only [ho, hx, Sem.run_bind, hl w hw, Result.andThen_ok, Sem.run_pure]
    exact ⟨rfl, rfl⟩, hk⟩
end Go.Proofs.YtmakjfeepmiggaaGreat

/-
  Pair.Same: both are as far.
-/
namespace Go.Proofs.YtmakjfeepmiggaaGreat
open Go.RowKit Go.Maps
set_option linter.unusedVariables false

theorem own_sl {w : World} {base e size n : Nat} {v : Value} {xs : List Value} (h : w.ownsRow base e size v n xs) : ∃ a cap, v = .slice a n cap := by
  obtain ⟨h1, ⟨rfl, rfl⟩ | ⟨g, cap, cur, hv, r⟩⟩ := h
  · exact ⟨_, _, rfl⟩
  · exact ⟨_, _, hv⟩
theorem notes_any {w : World} {base nb TN : Nat} {l : List Nte} (h : NL w base nb 286 TN .u8 l) : ∃ a cap, w.cell? ⟨nb, 0, none⟩ = some (.slice a l.length cap) ∧ Calls Tryz.prog 140 #[.pointer (some ⟨nb, 0, none⟩)] w fun e w' => e = .returned (.slice a l.length cap) ∧ w' = w := by
  obtain ⟨v, h1, h2, h3⟩ := h
  obtain ⟨a, cap, rfl⟩ := own_sl h3
  have c0 : w.cell? ⟨nb, 0, none⟩ = some (.slice a l.length cap) := hcell h1 0
  refine ⟨a, cap, c0, ?_⟩
  clear h1 h2 h3
  go_enter Tryz.func140, Tryz.ntmps140
  go_wp2
  go_ret
  exact ⟨rfl, rfl⟩
theorem ncount_any {w : World} {base nb TN : Nat} {l : List Nte} (h : NL w base nb 286 TN .u8 l) : Calls Tryz.prog 70 #[.pointer (some ⟨nb, 0, none⟩)] w fun e w' => e = .returned (.int .i64 l.length) ∧ w' = w := by
  obtain ⟨a, cap, -, hn⟩ := notes_any h
  clear h
  go_enter Tryz.func70, Tryz.ntmps70
  go_wp2_with (go_at_call 140; refine hn.mono ?_; rintro e w' ⟨rfl, rfl⟩)
  go_ret
  exact ⟨rfl, rfl⟩
section
variable {w0 w : World} {B R : WB} {V : WV} {s : CS} {x : RS}
theorem WS.last (h : WS w0 w B V s) : Calls Tryz.prog 69 #[.pointer (some ⟨B.cb, 0, none⟩)] w fun e w' => e = .returned (.agg #[.int .u8 s.kind, .int .u64 s.addr, .int .u64 s.was, .int .u64 s.is]) ∧ Below w.heap.size w w' := by
  obtain ⟨⟨S, hS⟩, hB⟩ := h.own
  exact last_any w _ B.cb s S hS
theorem WS.icount (h : WS w0 w B V s) : Calls Tryz.prog 71 #[.pointer (some ⟨B.ib, 0, none⟩)] w fun e w' => e = .returned (.int .i64 V.its.length) ∧ w = w' := by
  obtain ⟨S, hS⟩ := h.ar
  exact count_arena _ _ _ S w hS
theorem RD.icount (h : RD w0 w R V x) : Calls Tryz.prog 72 #[.pointer (some ⟨R.ib, 0, none⟩)] w fun e w' => e = .returned (.int .i64 V.its.length) ∧ w = w' := by
  obtain ⟨S, hS⟩ := h.ar
  exact rcount_arena _ _ _ S w hS
theorem WS.hd (h : WS w0 w B V s) : w.cell? ⟨B.wb, 0, none⟩ = some (.pointer (some ⟨B.cb, 0, none⟩)) ∧ w.cell? ⟨B.wb, 1, none⟩ = some (.pointer (some ⟨B.ib, 0, none⟩)) ∧ w.cell? ⟨B.wb, 2, none⟩ = some (.pointer (some ⟨B.nb, 0, none⟩)) ∧ w.cell? ⟨B.wb, 72, none⟩ = some (.int .i64 V.hd) :=
  ⟨h.c0, (h.cell 1).trans (val_at B V h.tkl).2.1, (h.cell 2).trans (val_at B V h.tkl).2.2.1, (h.cell 72).trans (val_at B V h.tkl).2.2.2.2.2⟩
theorem RD.hd (h : RD w0 w R V x) : w.cell? ⟨R.wb, 0, none⟩ = some (.pointer (some ⟨R.cb, 0, none⟩)) ∧ w.cell? ⟨R.wb, 1, none⟩ = some (.pointer (some ⟨R.ib, 0, none⟩)) ∧ w.cell? ⟨R.wb, 2, none⟩ = some (.pointer (some ⟨R.nb, 0, none⟩)) ∧ w.cell? ⟨R.wb, 72, none⟩ = some (.int .i64 V.hd) :=
  ⟨h.c0, (h.cell 1).trans (val_at R V h.tkl).2.1, (h.cell 2).trans (val_at R V h.tkl).2.2.1, (h.cell 72).trans (val_at R V h.tkl).2.2.2.2.2⟩
theorem RD.lastc (h : RD w0 w R V x) : w.cell? ⟨R.cb, 2, none⟩ = some (.int .u8 x.kind) ∧ w.cell? ⟨R.cb, 3, none⟩ = some (.int .u64 x.addr) ∧ w.cell? ⟨R.cb, 4, none⟩ = some (.int .u64 x.was) ∧ w.cell? ⟨R.cb, 5, none⟩ = some (.int .u64 x.is) := by
  obtain ⟨lv, hr⟩ := h.ref
  exact ⟨hr.cell 2, hr.cell 3, hr.cell 4, hr.cell 5⟩
set_option maxRecDepth 10000 in
set_option maxHeartbeats 2000000 in
theorem psame_any (h : Pr w0 w B R V s x) : Calls Tryz.prog 16 #[.agg #[.pointer (some ⟨B.wb, 0, none⟩), .pointer (some ⟨R.wb, 0, none⟩)]] w fun e w' => e = .returned (.bool true) ∧ Below w.heap.size w w' := by
  have hq0 := heap_alloc_new w (.cells #[.pointer (some ⟨B.wb, 0, none⟩), .pointer (some ⟨R.wb, 0, none⟩)] 34)
  have hB1 := below_alloc w (.cells #[.pointer (some ⟨B.wb, 0, none⟩), .pointer (some ⟨R.wb, 0, none⟩)] 34)
  have H1 := Lib.hid (h.keep hB1); have HQ := Lib.hid hq0; have HB1 := Lib.hid hB1
  have hal := h.al
  have htq := tick_eq V.tk V.tk h.ws.tkl h.ws.tkl
  rw [show (V.tk == V.tk) = true from beq_self_eq_true _] at htq
  have HTQ := Lib.hid htq
  clear h hq0 hB1 htq
  go_enter Tryz.func16, Tryz.ntmps16
  go_upto_region 1 with (fail)
  change Code.wp _ _ _ _ (w.alloc (.cells #[.pointer (some ⟨B.wb, 0, none⟩), .pointer (some ⟨R.wb, 0, none⟩)] 34))
  generalize w.alloc (.cells #[.pointer (some ⟨B.wb, 0, none⟩), .pointer (some ⟨R.wb, 0, none⟩)] 34) = w1 at *
  have p0 : w1.cell? ⟨w.heap.size, 0, none⟩ = some (.pointer (some ⟨B.wb, 0, none⟩)) := hcell HQ.out 0
  have p1 : w1.cell? ⟨w.heap.size, 1, none⟩ = some (.pointer (some ⟨R.wb, 0, none⟩)) := hcell HQ.out 1
  have HAL := Lib.hid hal
  clear hal
  go_upto_region 3 with (fail)
  have q0 := fun st : ExtW w1 => st.cell p0
  have q1 := fun st : ExtW w1 => st.cell p1
  obtain ⟨c0, c1, c2, c72⟩ := H1.out.ws.hd
  obtain ⟨r0, r1, r2, r72⟩ := H1.out.rd.hd
  obtain ⟨l2, l3, l4, l5⟩ := H1.out.rd.lastc
  rw [← HAL.out.kind] at l2; rw [← HAL.out.addr] at l3; rw [← HAL.out.was] at l4; rw [← HAL.out.is] at l5
  obtain ⟨nv, hn1, hn2, hn3⟩ := H1.out.rd.nt
  obtain ⟨na, ncap, hnv⟩ := own_sl hn3
  subst hnv
  have n0 : w1.cell? ⟨R.nb, 0, none⟩ = some (.slice na V.nts.length ncap) := hcell hn1 0
  have d0 := fun st : ExtW w1 => st.cell c0
  have d1 := fun st : ExtW w1 => st.cell c1
  have d2 := fun st : ExtW w1 => st.cell c2
  have d3 := fun st : ExtW w1 => st.cell c72
  have g0 := fun st : ExtW w1 => st.cell r0
  have g1 := fun st : ExtW w1 => st.cell r1
  have g2 := fun st : ExtW w1 => st.cell r2
  have g3 := fun st : ExtW w1 => st.cell r72
  have k2 := fun st : ExtW w1 => st.cell l2
  have k3 := fun st : ExtW w1 => st.cell l3
  have k4 := fun st : ExtW w1 => st.cell l4
  have k5 := fun st : ExtW w1 => st.cell l5
  have m0 := fun st : ExtW w1 => st.cell n0
  have hs1 := fun st : ExtW w1 => (steps_any (H1.out.keep st.below).ws.wld).mono fun e w' (h : _ ∧ _) => And.intro h.1 h.2.symm
  have hs2 := fun st : ExtW w1 => (rwsteps (H1.out.keep st.below).rd).mono fun e w' (h : _ ∧ _) => And.intro h.1 h.2.symm
  rw [← HAL.out.cnt] at hs2
  have hls := fun st : ExtW w1 => (H1.out.keep st.below).ws.last
  have hnc := fun st : ExtW w1 => (ncount_any (H1.out.keep st.below).ws.nt).mono fun e w' (h : _ ∧ _) => And.intro h.1 h.2.symm
  have hic := fun st : ExtW w1 => (H1.out.keep st.below).ws.icount
  have hri := fun st : ExtW w1 => (H1.out.keep st.below).rd.icount
  have ht1 := fun st : ExtW w1 => tk_load (H1.out.keep st.below).ws.blk (H1.out.keep st.below).ws.tkl
  have ht2 := fun st : ExtW w1 => tk_load (H1.out.keep st.below).rd.blk (H1.out.keep st.below).rd.tkl
  have htq := fun W => HTQ.out W
  clear p0 p1 c0 c1 c2 c72 r0 r1 r2 r72 l2 l3 l4 l5 n0 hn1 hn2 hn3
  simp only [List.append_eq, List.cons_append, List.nil_append]
  refine wp_region_ext (by kernel_rfl) (by kernel_rfl) ?_
  repeat (go_big_quiet_step (first
    | (go_at_call 67; with_reducible refine calls_ext_same (hs1 _))
    | (go_at_call 68; with_reducible refine calls_ext_same (hs2 _))
    | (go_at_call 69; with_reducible refine calls_ext (hls _))
    | (go_at_call 70; with_reducible refine calls_ext_same (hnc _))
    | (go_at_call 71; with_reducible refine calls_ext_same (hic _))
    | (go_at_call 72; with_reducible refine calls_ext_same (hri _))))
  go_big_quiet_want
  refine quiet_load 115 _ rfl _ (.agg (tkV V.tk).toArray) rfl (fun W hW => ?_) ?_
  · obtain ⟨st, rfl⟩ := hW
    exact ht1 st
  go_frame
  go_big_quiet_on
  repeat (go_big_quiet_step (fail))
  go_big_quiet_want
  refine quiet_load 115 _ rfl _ (.agg (tkV V.tk).toArray) rfl (fun W hW => ?_) ?_
  · obtain ⟨st, rfl⟩ := hW
    exact ht2 st
  go_frame
  go_big_quiet_on
  repeat (go_big_quiet_step (fail))
  refine wpQuiet_nil ?_
  rintro W2 ⟨⟨W3, hW⟩, rfl⟩
  clear q0 q1 d0 d1 d2 d3 g0 g1 g2 g3 k2 k3 k4 k5 m0 hs1 hs2 hls hnc hic hri ht1 ht2 htq
  go_wp2
  go_ret
  exact ⟨rfl, HB1.out.trans (hW.mono HB1.out.size)⟩
end
end Go.Proofs.YtmakjfeepmiggaaGreat

/-
  DERIVED: THE SHELF's CONTRACTS AT THIS DUMP, IN PLAIN WORDS (tools/lay-plain.mjs out of 'YtmakjfeepmiggaaGreatSortSrc.lean', which tools/lay-shelf.mjs wrote): THE SAME DECLARATIONS UNDER THE SAME NAMES: 'import', 'namespace', 'open', 'def', 'theorem' AND NOTHING ELSE: no command of the shelf's: FOR A HAND-IN. Each laying: the table of numbers ('.._ren') and one theorem, a field a fact of the dump's own or the kernel's comparison; each contract: ONE APPLICATION.
-/
namespace Go.Proofs.YtmakjfeepmiggaaGreat
open Go.Shelf
def sortW_ren : Go.Shelf.Ren := ⟨fun | 6 => 183 | 15 => 220 | 14 => 219 | 28 => 238 | 29 => 239 | 20 => 230 | 21 => 231 | 22 => 232 | 23 => 233 | 24 => 234 | 25 => 235 | 26 => 236 | 27 => 237 | 46 => 243 | 47 => 244 | 48 => 245 | 49 => 246 | 50 => 247 | 57 => 253 | n => n, fun | 22 => 243 | 24 => 226 | 25 => 297 | 3 => 3 | 39 => 263 | 0 => 0 | 53 => 78 | 55 => 38 | 4 => 4 | 46 => 337 | 45 => 336 | 50 => 341 | 5 => 5 | 9 => 9 | 66 => 345 | 70 => 348 | 76 => 355 | 77 => 254 | n => n, fun | n => n⟩
theorem sortW : Go.Proofs.SlLaysF0.n6 Tryz.prog sortW_ren := {
  mixed := by kernel_rfl
  f6 := ⟨Tryz.f183.name, by decide, Tryz.func183.trans (congrArg some (by kernel_rfl))⟩
  f14 := ⟨Tryz.f219.name, by decide, Tryz.func219.trans (congrArg some (by kernel_rfl))⟩
  f15 := Tryz.func220.trans (congrArg some (by kernel_rfl))
  f20 := ⟨Tryz.f230.name, by decide, Tryz.func230.trans (congrArg some (by kernel_rfl))⟩
  f21 := ⟨Tryz.f231.name, by decide, Tryz.func231.trans (congrArg some (by kernel_rfl))⟩
  f22 := ⟨Tryz.f232.name, by decide, Tryz.func232.trans (congrArg some (by kernel_rfl))⟩
  f23 := ⟨Tryz.f233.name, by decide, Tryz.func233.trans (congrArg some (by kernel_rfl))⟩
  f24 := ⟨Tryz.f234.name, by decide, Tryz.func234.trans (congrArg some (by kernel_rfl))⟩
  f25 := ⟨Tryz.f235.name, by decide, Tryz.func235.trans (congrArg some (by kernel_rfl))⟩
  f26 := ⟨Tryz.f236.name, by decide, Tryz.func236.trans (congrArg some (by kernel_rfl))⟩
  f27 := ⟨Tryz.f237.name, by decide, Tryz.func237.trans (congrArg some (by kernel_rfl))⟩
  f28 := Tryz.func238.trans (congrArg some (by kernel_rfl))
  f29 := Tryz.func239.trans (congrArg some (by kernel_rfl))
  f46 := ⟨Tryz.f243.name, by decide, Tryz.func243.trans (congrArg some (by kernel_rfl))⟩
  f47 := Tryz.func244.trans (congrArg some (by kernel_rfl))
  f48 := Tryz.func245.trans (congrArg some (by kernel_rfl))
  f49 := ⟨Tryz.f246.name, by decide, Tryz.func246.trans (congrArg some (by kernel_rfl))⟩
  f50 := ⟨Tryz.f247.name, by decide, Tryz.func247.trans (congrArg some (by kernel_rfl))⟩
  f57 := ⟨Tryz.f253.name, by decide, Tryz.func253.trans (congrArg some (by kernel_rfl))⟩
  t0 := Tryz.underlying0
  a0 := Tryz.isAgg0
  z0 := Tryz.sizeOf0
  v0 := Tryz.zeroValue0
  t3 := Tryz.underlying3
  a3 := Tryz.isAgg3
  z3 := Tryz.sizeOf3
  v3 := Tryz.zeroValue3
  t4 := Tryz.underlying4
  a4 := Tryz.isAgg4
  z4 := Tryz.sizeOf4
  v4 := Tryz.zeroValue4
  t5 := Tryz.underlying5
  a5 := Tryz.isAgg5
  z5 := Tryz.sizeOf5
  v5 := Tryz.zeroValue5
  t9 := Tryz.underlying9
  a9 := Tryz.isAgg9
  z9 := Tryz.sizeOf9
  v9 := Tryz.zeroValue9
  t22 := Tryz.underlying243
  a22 := Tryz.isAgg243
  z22 := Tryz.sizeOf243
  v22 := Tryz.zeroValue243
  t25 := Tryz.underlying297
  a25 := Tryz.isAgg297
  z25 := Tryz.sizeOf297
  v25 := Tryz.zeroValue297
  t39 := Tryz.underlying263
  a39 := Tryz.isAgg263
  z39 := Tryz.sizeOf263
  v39 := Tryz.zeroValue263
  t45 := Tryz.underlying336
  a45 := Tryz.isAgg336
  z45 := Tryz.sizeOf336
  v45 := Tryz.zeroValue336
  t46 := Tryz.underlying337
  a46 := Tryz.isAgg337
  z46 := Tryz.sizeOf337
  v46 := Tryz.zeroValue337
  t50 := Tryz.underlying341
  a50 := Tryz.isAgg341
  z50 := Tryz.sizeOf341
  v50 := Tryz.zeroValue341
  t53 := Tryz.underlying78
  a53 := Tryz.isAgg78
  z53 := Tryz.sizeOf78
  v53 := Tryz.zeroValue78
  t55 := Tryz.underlying38
  a55 := Tryz.isAgg38
  z55 := Tryz.sizeOf38
  v55 := Tryz.zeroValue38
  t66 := Tryz.underlying345
  a66 := Tryz.isAgg345
  z66 := Tryz.sizeOf345
  v66 := Tryz.zeroValue345
  t70 := Tryz.underlying348
  a70 := Tryz.isAgg348
  z70 := Tryz.sizeOf348
  v70 := Tryz.zeroValue348
  t76 := Tryz.underlying355
  a76 := Tryz.isAgg355
  z76 := Tryz.sizeOf355
  v76 := Tryz.zeroValue355
  t77 := Tryz.underlying254
  a77 := Tryz.isAgg254
  z77 := Tryz.sizeOf254
  v77 := Tryz.zeroValue254 }
end Go.Proofs.YtmakjfeepmiggaaGreat

/-
  The sort of words, by their addresses: whatever length.
-/
namespace Go.Proofs.YtmakjfeepmiggaaGreat
open Go.RowKit Go.Shelf Go.Lib Go.Sort
set_option linter.unusedVariables false

theorem isnan_any (a : Int) (w : World) : Calls Tryz.prog 221 #[.int .u64 a] w fun e w' => e = .returned (.bool false) ∧ w' = w := by
  go_enter Tryz.func221, Tryz.ntmps221
  go_wp2
  go_ret
  exact ⟨rfl, rfl⟩
theorem cmp_any (a b : Int) (w : World) : Calls Tryz.prog 185 #[.int .u64 a, .int .u64 b] w fun e w' => e = .returned (.int .i64 (Lib.compareInt a b)) ∧ w' = w := by
  unfold Lib.compareInt
  by_cases h1 : a < b
  · rw [if_pos h1]
    go_enter Tryz.func185, Tryz.ntmps185
    go_wp2_with (go_at_call 221; refine (isnan_any _ _).mono ?_; rintro e w1 ⟨rfl, rfl⟩)
    go_ret
    exact ⟨rfl, rfl⟩
  · rw [if_neg h1]
    by_cases h2 : b < a
    · rw [if_pos h2]
      go_enter Tryz.func185, Tryz.ntmps185
      go_wp2_with (go_at_call 221; refine (isnan_any _ _).mono ?_; rintro e w1 ⟨rfl, rfl⟩)
      go_ret
      exact ⟨rfl, rfl⟩
    · rw [if_neg h2]
      go_enter Tryz.func185, Tryz.ntmps185
      go_wp2_with (go_at_call 221; refine (isnan_any _ _).mono ?_; rintro e w1 ⟨rfl, rfl⟩)
      go_ret
      exact ⟨rfl, rfl⟩
/-- A word's two cells. -/
def encW (x : Int × Int) : List Value := [.int .u64 x.1, .int .u64 x.2]
def cmpW (x y : Int × Int) : Int := Lib.compareInt x.1 y.1
theorem closure_any (x y : Int × Int) (W : World) : Calls Tryz.prog 184 #[.agg #[.int .u64 x.1, .int .u64 x.2], .agg #[.int .u64 y.1, .int .u64 y.2]] W fun e w' => e = .returned (.int .i64 (cmpW x y)) ∧ ∃ q os', w' = grow (W.drewN q) os' := by
  have hcon := fun W' => cmp_any x.1 y.1 W'
  unfold cmpW
  generalize Lib.compareInt x.1 y.1 = r at hcon ⊢
  go_enter Tryz.func184, Tryz.ntmps184
  go_wp2_with (go_at_call 185; refine (hcon _).mono ?_; rintro e w' ⟨rfl, rfl⟩)
  go_ret
  exact ⟨rfl, 0, _, by rw [alloc_eq_grow, alloc_eq_grow, grow_grow]; rfl⟩
theorem cmpLaysW (blk off size : Nat) (w : World) : CmpLays Tryz.prog 184 #[] encW 2 cmpW blk off size w := fun _ _ _ _ x y => closure_any x y _
theorem ltW (x y : Int × Int) : ltOf cmpW x y = decide (x.1 < y.1) := by
  unfold ltOf cmpW Lib.compareInt
  by_cases h1 : x.1 < y.1
  · simp [h1]
  · by_cases h2 : y.1 < x.1 <;> simp [h1, h2]
theorem swoW : SWO (ltOf cmpW) where
  irrefl x := by rw [ltW]; simp
  trans x y z h1 h2 := by rw [ltW] at *; simp at *; omega
  ntrans x y z h1 h2 := by rw [ltW] at *; simp at *; omega
theorem sort_any (blk off cap : Nat) (d : Array (Int × Int)) (w : World) (hH : HoldsK encW 2 w blk off d) (hblk : blk < w.heap.size) (hsz : d.size < 4611686018427387904) :
    Calls Tryz.prog 183 #[.slice (some ⟨blk, off, none⟩) d.size cap, .func (.func 184) #[] #[]] w fun e w' => e = .returned (.tuple #[]) ∧ ∃ d' n os, PermIn 0 d.size d d' ∧ SortedIn (ltOf cmpW) 0 d.size d' ∧ w' = sortWorldK encW 2 w blk off n d' os := by
  have eg : ∀ args w, (callFunc 184 args).run Tryz.prog w = .ok (.enter 184 args) w := fun args w => by kernel_rfl
  exact AnyQ.slices_SortFunc sortW 2 Tryz.isAgg226 Tryz.sizeOf226 encW (fun _ => rfl) (fun x v hv => by simp [encW] at hv; rcases hv with rfl | rfl <;> rfl) cmpW swoW 184 #[] blk off cap d w eg (cmpLaysW blk off d.size w) hH hblk hsz
end Go.Proofs.YtmakjfeepmiggaaGreat

/-
  Words of cells, whatever they hold.
-/
namespace Go.Proofs.YtmakjfeepmiggaaGreat
open Go.RowKit Go.Maps
set_option linter.unusedVariables false

theorem ranges_le {H : Type} {P : Program} {k : TypeId} {R : Value → Option (DataW H × List MemPlace)} {w : World} {b r n : Nat} {D : DataW H} {left : Lit → Bool} {cnt : Nat} (h : w.ranges P k R b r n D left cnt) : cnt ≤ n := by
  obtain ⟨es, clock, since, seen, c0, _, _, hn, _, _, _, hc, _⟩ := h
  rw [← hc]
  exact Nat.le_trans (by unfold leftOf; exact Array.size_filter_le) hn
theorem same_kA (a x : Int) : (kA a).sameKey (kA x) = decide (a = x) := by simp [kA, Lit.sameKey]

/-- The words so far, by what is left of the map. -/
structure Wds (val : Int → Int) (left : Lit → Bool) (ws : List (Int × Int)) : Prop where
  eq : ∀ p ∈ ws, p.2 = val p.1 ∧ p.2 ≠ 0 ∧ left (kA p.1) = false ∧ (Lit.int .u64 p.1).wf = true
  ne : ws.Pairwise fun p q => p.1 ≠ q.1
  all : ∀ a, val a ≠ 0 → left (kA a) = true ∨ ∃ p ∈ ws, p.1 = a
theorem Wds.skip {val : Int → Int} {left : Lit → Bool} {ws : List (Int × Int)} {x : Int} (h : Wds val left ws) (hx : val x = 0) : Wds val (fun z => left z && !z.sameKey (kA x)) ws := by
  refine ⟨fun p hp => ?_, h.ne, fun a ha => ?_⟩
  · obtain ⟨h1, h2, h3, h4⟩ := h.eq p hp
    exact ⟨h1, h2, by simp [h3], h4⟩
  · rcases h.all a ha with h1 | h1
    · have : a ≠ x := fun c => ha (c ▸ hx)
      exact .inl (by simp [h1, same_kA, this])
    · exact .inr h1
theorem Wds.more {val : Int → Int} {left : Lit → Bool} {ws : List (Int × Int)} {x : Int} (h : Wds val left ws) (hx : val x ≠ 0) (hl : left (kA x) = true) (hw : (Lit.int .u64 x).wf = true) :
    Wds val (fun z => left z && !z.sameKey (kA x)) (ws ++ [(x, val x)]) := by
  refine ⟨fun p hp => ?_, ?_, fun a ha => ?_⟩
  · rcases List.mem_append.1 hp with hp | hp
    · obtain ⟨h1, h2, h3, h4⟩ := h.eq p hp
      exact ⟨h1, h2, by simp [h3], h4⟩
    · simp only [List.mem_singleton] at hp
      subst hp
      exact ⟨rfl, hx, by simp [same_kA], hw⟩
  · refine List.pairwise_append.2 ⟨h.ne, List.pairwise_singleton _ _, fun p hp q hq c => ?_⟩
    simp only [List.mem_singleton] at hq
    subst hq
    have := (h.eq p hp).2.2.1
    simp only at c
    rw [c, hl] at this
    cases this
  · rcases h.all a ha with h1 | ⟨p, hp, h1⟩
    · by_cases hax : a = x
      · exact .inr ⟨(x, val x), by simp, hax.symm⟩
      · exact .inl (by simp [h1, same_kA, hax])
    · exact .inr ⟨p, by simp [hp], h1⟩

theorem rlook_mem {l : List (Int × Int)} (h : Ris l) {p : Int × Int} (hp : p ∈ l) : rlook l p.1 = p.2 := by
  induction l with
  | nil => cases hp
  | cons q r ih =>
    have h2 := List.pairwise_cons.1 h
    rcases List.mem_cons.1 hp with rfl | hp
    · simp [rlook]
    · have := h2.1 p hp
      have hne : q.1 ≠ p.1 := by omega
      simp only [rlook, if_neg hne]
      exact ih h2.2 hp

open Go.Sort in
theorem wds_sorted {val : Int → Int} {left : Lit → Bool} {ws : List (Int × Int)} (h : Wds val left ws) (hl : ∀ k, left k = false) {d' : Array (Int × Int)} (hp : PermIn 0 ws.length ws.toArray d') (hs : SortedIn (ltOf cmpW) 0 ws.length d') :
    d'.size = ws.length ∧ Ris d'.toList ∧ (∀ p ∈ d'.toList, p.2 ≠ 0 ∧ p.2 = val p.1 ∧ (Lit.int .u64 p.1).wf = true) ∧ ∀ a, rlook d'.toList a = val a := by
  obtain ⟨h1, _, h3⟩ := hp
  have h1 : d'.size = ws.length := by simpa using h1
  have e1 : (d'.extract 0 ws.length) = d' := by rw [← h1]; simp
  have e2 : (ws.toArray.extract 0 ws.length) = ws.toArray := by simp
  rw [e1, e2] at h3
  have h3 : d'.toList.Perm ws := by simpa using h3
  have hne : d'.toList.Pairwise fun p q => p.1 ≠ q.1 := (h3.pairwise_iff (fun h c => h c.symm)).2 h.ne
  have hris : Ris d'.toList := by
    unfold Ris
    rw [List.pairwise_iff_getElem] at hne ⊢
    intro i j hi hj hij
    have a := hne i j hi hj hij
    have hi' : i < d'.size := by simpa using hi
    have hj' : j < d'.size := by simpa using hj
    have b := hs i j (Nat.zero_le _) hij (by omega)
    rw [ltW, getElem!_pos d' i hi', getElem!_pos d' j hj'] at b
    simp only [decide_eq_false_iff_not] at b
    simp only [Array.getElem_toList] at a ⊢
    omega
  have hall : ∀ p ∈ d'.toList, p.2 ≠ 0 ∧ p.2 = val p.1 ∧ (Lit.int .u64 p.1).wf = true := fun p hp => by
    obtain ⟨a1, a2, a3, a4⟩ := h.eq p (h3.mem_iff.1 hp)
    exact ⟨a2, a1, a4⟩
  refine ⟨h1, hris, hall, fun a => ?_⟩
  by_cases ha : val a = 0
  · rw [ha]
    refine rlook_out fun q hq c => ?_
    obtain ⟨a1, a2, _⟩ := hall q hq
    rw [c] at a2
    exact a1 (a2.trans ha)
  · rcases h.all a ha with c | ⟨p, hp, rfl⟩
    · rw [hl] at c; cases c
    · have hm := h3.mem_iff.2 hp
      rw [rlook_mem hris hm]
      exact (hall p hm).2.1

open Go.Sort in
theorem holds_flat2 {w : World} {g e : Nat} {cur : Array Value} (hg : w.heap[g]? = some (.cells cur e (0, 0))) (ws : List (Int × Int)) (ht : cur.toList.take (ws.length * 2) = flat2 ws) : HoldsK encW 2 w g 0 ws.toArray := by
  intro j hj
  rw [size_flatK] at hj
  have hj2 : j < ws.length * 2 := by simpa using hj
  have hi : j / 2 < ws.length := by omega
  obtain ⟨f0, f1⟩ := flat2_at ws (j / 2) hi
  have hc : cur[j]? = (flat2 ws)[j]? := by rw [← ht, List.getElem?_take_of_lt hj2]; simp
  have hw : w.cell? ⟨g, 0 + j, none⟩ = cur[j]? := by simp [World.cell?, hg]
  refine ⟨?_, by simp [World.frozen?, hg]⟩
  rw [get_flatK _ _ _ _ hj, hw, hc]
  rcases (by omega : j % 2 = 0 ∨ j % 2 = 1) with h | h
  · rw [show j = j / 2 * 2 by omega, f0]
    simp [encW, hi]
  · rw [show j = j / 2 * 2 + 1 by omega, f1]
    have e1 : (j / 2 * 2 + 1) / 2 = j / 2 := by omega
    have e2 : (j / 2 * 2 + 1) % 2 = 1 := by omega
    rw [e1, e2]
    simp [encW, hi]

open Go.Sort in
theorem sort_keeps (w : World) (g n : Nat) (d : Array (Int × Int)) (os : Array Obj) : Keeps (· = g) w (sortWorldK encW 2 w g 0 n d os) := by
  refine ⟨rfl, rfl, rfl, size_sortWorldK_c _ _ _ _ _ _ _ _, fun k hk hne => ?_⟩
  have hne : ¬ g = k := fun c => hne c.symm
  unfold sortWorldK grow putRowK putRow mapBlock Sort.ahead
  simp only
  rw [Array.getElem?_append_left (by simpa using hk)]
  simp [Array.getElem?_modify, hne]

/-- From place k on the row that a call itself made holds the words. -/
def WFrom (w : World) (base : Nat) (a : Option Addr) (ws : List (Int × Int)) (k : Nat) : Prop :=
  ws.length ≤ k ∨ ∃ g cur, a = some ⟨g, 0, none⟩ ∧ base ≤ g ∧ w.heap[g]? = some (.cells cur 226 (0, 0)) ∧ ∀ i, k ≤ i → (hi : i < ws.length) → cur[i * 2]? = some (.int .u64 (ws[i]).1) ∧ cur[i * 2 + 1]? = some (.int .u64 (ws[i]).2)

open Go.Sort in
theorem wfrom_sorted {w : World} {base g : Nat} {cur : Array Value} (hgb : base ≤ g) (hg : w.heap[g]? = some (.cells cur 226 (0, 0))) {ws : List (Int × Int)} (ht : cur.toList.take (ws.length * 2) = flat2 ws) {n : Nat} {d' : Array (Int × Int)} {os : Array Obj} (hd : d'.size = ws.length) :
    WFrom (sortWorldK encW 2 w g 0 n d' os) base (some ⟨g, 0, none⟩) d'.toList 0 := by
  have hlt : g < w.heap.size := (Array.getElem?_eq_some_iff.1 hg).1
  have hH := holdsK_sortWorldK_c encW 2 w g 0 ws.toArray d' n os (holds_flat2 hg ws ht) hlt (by simpa using hd)
  have hh : (sortWorldK encW 2 w g 0 n d' os).heap[g]? = some (.cells (putCells id 0 (flatK encW 2 d') cur) 226 (0, 0)) := by
    unfold sortWorldK grow putRowK putRow mapBlock Sort.ahead
    simp only
    rw [Array.getElem?_append_left (by simpa using hlt)]
    simp [Array.getElem?_modify, hg, onCells]
  generalize putCells id 0 (flatK encW 2 d') cur = c2 at hh
  refine .inr ⟨g, c2, rfl, hgb, hh, fun i _ hi => ?_⟩
  have hi : i < d'.size := by simpa using hi
  have c0 := (hH.cell (i := i) (c := 0) hi (by omega)).1
  have c1 := (hH.cell (i := i) (c := 1) hi (by omega)).1
  rw [getElem!_pos d' i hi] at c0 c1
  have e : ∀ o, (sortWorldK encW 2 w g 0 n d' os).cell? ⟨g, o, none⟩ = c2[o]? := fun o => by unfold World.cell?; simp only; rw [hh]; rfl
  rw [e] at c0 c1
  simp only [Array.getElem_toList]
  exact ⟨by simpa [encW] using c0, by simpa [encW] using c1⟩

theorem clip_any (g n cap : Nat) (hn : n ≤ cap) (hc : cap ≤ maxLen) (w : World) : Calls Tryz.prog 186 #[.slice (some ⟨g, 0, none⟩) n cap] w fun e w' => e = .returned (.slice (some ⟨g, 0, none⟩) n n) ∧ w' = w := by
  unfold maxLen at hc
  go_enter Tryz.func186, Tryz.ntmps186
  go_wp2
  go_ret
  exact ⟨rfl, rfl⟩
theorem info_cword : (Tryz.prog.info? 226).map (fun i => (i.zero, i.size, i.bytes)) = some (some (.agg #[.int .u64 0, .int .u64 0]), 2, 16) := by kernel_rfl

theorem own_but {w w1 : World} {base e size n r : Nat} {v : Value} {xs : List Value} (h : w.ownsRow base e size v n xs) (hg : w.grownBy w1 (some r)) (hr : r < base) : w1.ownsRow base e size v n xs := by
  obtain ⟨h1, h2 | ⟨g, cap, cur, rfl, hgb, hh, r2⟩⟩ := h
  · exact ⟨h1, .inl h2⟩
  · exact ⟨h1, .inr ⟨g, cap, cur, rfl, hgb, (hg.block g (Array.getElem?_eq_some_iff.1 hh).1 (fun c => by cases c; omega)).trans hh, r2⟩⟩
/-- What words tell. -/
structure WordsOf (w : World) (base : Nat) (val : Int → Int) (a : Option Addr) (ws : List (Int × Int)) : Prop where
  row : WFrom w base a ws 0
  most : ws.length ≤ 1000000
  wf : ∀ p ∈ ws, (Lit.int .u64 p.1).wf = true ∧ (Lit.int .u64 p.2).wf = true
  ris : Ris ws
  nz : ∀ p ∈ ws, p.2 ≠ 0
  look : ∀ x, rlook ws x = val x
theorem wordsOf_nil {w : World} {base : Nat} {val : Int → Int} (h : ∀ x, val x = 0) : WordsOf w base val none [] :=
  ⟨.inl (Nat.le_refl _), Nat.zero_le _, fun p hp => (by cases hp), List.Pairwise.nil, fun p hp => (by cases hp), fun x => (h x).symm⟩

set_option maxRecDepth 10000 in
set_option maxHeartbeats 2000000 in
theorem words_any (w : World) (base b : Nat) (s : CS) (S : Nat → Prop) (hA : Cells w base b s S) (hn : s.n ≤ 1000000) :
    Calls Tryz.prog 141 #[.pointer (some ⟨b, 0, none⟩)] w fun e w' => ∃ a ws, e = .returned (.slice a ws.length ws.length) ∧ WordsOf w' w.heap.size s.val a ws ∧ Below w.heap.size w w' := by
  obtain ⟨mo, f, hA, hS⟩ := hA
  cases mo with
  | none =>
    have hz : ∀ a, s.val a = 0 := fun a => hA.zero a (hA.nomap rfl a)
    exact (words_zero w base b s S ⟨none, f, hA, hS⟩ hz).mono fun e w' ⟨he, hb⟩ => ⟨none, [], he, wordsOf_nil hz, hb⟩
  | some m =>
    subst hS
    have hb : b < w.heap.size := (Array.getElem?_eq_some_iff.1 hA.hdr).1
    have c0 : w.cell? ⟨b, 0, none⟩ = some (.map (some m)) := by simp [World.cell?, hA.hdr, hdrC]
    obtain ⟨⟨D, hown, hf, hh⟩, hm1, hm2⟩ := hA.map m rfl
    have hml : m < w.heap.size := hown.lt
    obtain ⟨i0, hi0, hz0, hz1, hz2⟩ := info_parts info_cword
    have HI := Lib.hid hi0; have HZ0 := Lib.hid hz0; have HZ1 := Lib.hid hz1; have HZ2 := Lib.hid hz2
    have hst : Wds s.val (Maps.has D) [] := ⟨fun p hp => (by cases hp), List.Pairwise.nil, fun a ha => .inl ((hh a).trans (by
      cases e : f a with
      | none => exact absurd (hA.zero a e) ha
      | some p => rfl))⟩
    have HA := Lib.hid hA; have HF := Lib.hid hf; have HH := Lib.hid hh; have HN := Lib.hid hn; have HST := Lib.hid hst
    clear hA hf hh hn hst hi0 hz0 hz1 hz2 hm2
    go_enter Tryz.func141, Tryz.ntmps141
    go_wp2_with (first
      | (at_range; refine wpList_range_own _ rfl _ 237 rfl 39 233 addr_keyed Tryz.underlying237 _ m s.n _ rfl hown ?_; intro w0 hrg0 hg0 hs0)
      | fail)
    go_frame
    go_loopw [3] (fun v wr => ∃ (ws : List (Int × Int)) (left : Lit → Bool) (cnt : Nat), wr.ownsRow (w.heap.size + 1) 226 2 v ws.length (flat2 ws) ∧ Wds s.val left ws ∧ ws.length + cnt ≤ s.n ∧ wr.ranges Tryz.prog 39 ptrR m w.heap.size s.n D left cnt ∧ Below w.heap.size w wr)
      (fun _ wr => wr.rangeLeft m w.heap.size)
    case atStart => exact ⟨[], _, _, World.ownsRow_nil _ _ _ _, HST.out, by have := ranges_le hrg0; simpa using this, hrg0, ⟨hg0.os, hg0.tape, hg0.output, hg0.size, fun k hk => hg0.block k hk (by simp)⟩⟩
    case round =>
      obtain ⟨ws, left, cnt, hrow, hwd, hct, hrg, hgw⟩ := hrel
      go_wp2_with (first
        | (at_next; refine wpList_next_ranges _ rfl _ rfl 39 addr_keyed ptrR (Value.int .u64) ptrV (fun key kl hkey => by obtain ⟨x, rfl, _⟩ := Maps.keyOf_int_inv Tryz.underlying39 hkey; exact ⟨x, rfl⟩) (fun v y hv => by obtain ⟨c, rfl, _⟩ := ptrR_inv hv; exact ⟨c, rfl⟩) m w.heap.size s.n _ _ _ rfl hrg ?_ ?_)
        | fail)
      · intro _ hl0
        have hwn := HN.out
        obtain ⟨hfl, ⟨rfl, hnil⟩ | ⟨g, cap, cur, rfl, hgb, hg, hnc, hcm, hcs, ht⟩⟩ := hrow
        · obtain rfl : ws = [] := List.eq_nil_of_length_eq_zero hnil
          have hz : ∀ a, s.val a = 0 := fun a => by
            by_cases ha : s.val a = 0
            · exact ha
            · rcases hwd.all a ha with c | ⟨p, hp, _⟩
              · rw [hl0] at c; cases c
              · cases hp
          have HZ := Lib.hid hz
          have HGW := Lib.hid hgw
          clear hz hwd hrg hgw hct hl0
          go_wp2_with (first
            | (go_at_call 183; refine (sort_nil _ _).mono ?_; rintro e w1 ⟨rfl, g1⟩)
            | (go_at_call 186; refine (clip_nil _).mono ?_; rintro e w2 ⟨rfl, g2⟩))
          go_ret
          exact ⟨none, [], rfl, wordsOf_nil HZ.out, (HGW.out.trans (g1.mono HGW.out.size)).trans (g2.mono (Nat.le_trans HGW.out.size g1.size))⟩
        · have hsort := sort_any g 0 cap ws.toArray wr (holds_flat2 hg ws ht) (Array.getElem?_eq_some_iff.1 hg).1 (by simp; omega)
          simp only [List.size_toArray] at hsort
          have hclip := clip_any g ws.length cap hnc hcm
          have hk : ∀ n d' os, Sort.PermIn 0 ws.length ws.toArray d' → Sort.SortedIn (ltOf cmpW) 0 ws.length d' → d'.size = ws.length ∧ WordsOf (sortWorldK encW 2 wr g 0 n d' os) w.heap.size s.val (some ⟨g, 0, none⟩) d'.toList ∧ Below w.heap.size w (sortWorldK encW 2 wr g 0 n d' os) := fun n d' os hp hs => by
            obtain ⟨a1, a2, a3, a4⟩ := wds_sorted hwd hl0 hp hs
            have hr := wfrom_sorted (n := n) (os := os) (base := w.heap.size) (by omega) hg ht a1
            exact ⟨a1, ⟨hr, by simp [a1]; omega, fun p hp => ⟨(a3 p hp).2.2, by rw [(a3 p hp).2.1]; exact HA.out.wf _⟩, a2, fun p hp => (a3 p hp).1, a4⟩, keeps_below (sort_keeps wr g n d' os) hgw hgw.size fun k hk => by omega⟩
          have HK := Lib.hid hk; have HS := Lib.hid hsort; have HC := Lib.hid hclip
          unfold maxLen at hcm
          clear hk hsort hclip hwd hrg hgw hl0 hg ht hct hfl
          go_wp2_with (first
            | (go_at_call 183; refine HS.out.mono ?_; rintro e w1 ⟨rfl, d', n, os, hp, hs, hw1⟩)
            | (go_at_call 186; refine (HC.out _).mono ?_; rintro e w2 ⟨rfl, rfl⟩))
          go_ret
          obtain ⟨a1, a2, a3⟩ := HK.out n d' os hp hs
          exact ⟨some ⟨g, 0, none⟩, d'.toList, by rw [show d'.toList.length = ws.length by simp [a1]]; rfl, a2, a3⟩
      · intro x c kl y yp w1 cnt1 hk hlk hR hat hrg1 hlt hg1 hs1 hen
        obtain ⟨x', ex, hkl, hwx⟩ := Maps.keyOf_int_inv Tryz.underlying39 hk
        cases ex
        subst hkl
        have e0 : y = pD c := by have := (ptrR_mk c).symm.trans hR; simp only [Option.some.injEq, Prod.mk.injEq] at this; exact this.1.symm
        have e1 : f x = c := pD_inj ((HF.out x).symm.trans ((hat _).trans e0))
        have e2 : (f x).isSome = true := (HH.out x).symm.trans (has_true_of_atKey hat)
        rw [e1] at e2
        cases c with
        | none => cases e2
        | some p =>
          have hp := HA.out.ptr x p e1
          have hpl : p < w.heap.size := (Array.getElem?_eq_some_iff.1 hp.1).1
          have hgw1 : Below w.heap.size w w1 := hgw.trans ⟨hg1.os, hg1.tape, hg1.output, hg1.size, fun k hk => hg1.block k (Nat.lt_of_lt_of_le hk hgw.size) (fun c => by cases c; omega)⟩
          have hpc := cell_of_word ((hgw1.block p hpl).trans hp.1)
          have hrow1 := own_but hrow hg1 (Nat.lt_succ_self _)
          have hz0 : s.val x = 0 → Wds s.val (fun z => left z && !z.sameKey (kA x)) ws := hwd.skip
          have hz1 : s.val x ≠ 0 → Wds s.val (fun z => left z && !z.sameKey (kA x)) (ws ++ [(x, s.val x)]) := fun h => hwd.more h hlk hwx
          have hs1' : w.heap.size < w1.heap.size := by have := hrg1.lt; exact this
          have hlen1 : ws.length + 1 + cnt1 ≤ s.n := by omega
          simp only [ptrV, Option.map] at hen ⊢
          have HR := Lib.hid hrg; have HR1 := Lib.hid hrg1; have HRW := Lib.hid hrow1; have HW0 := Lib.hid hz0; have HW1 := Lib.hid hz1; have HG1 := Lib.hid hgw1; have HLT := Lib.hid hlt; have HSZ := Lib.hid hs1'; have HL1 := Lib.hid hlen1; have HM := Lib.hid hml
          clear hrg hrg1 hat hR e0 e1 e2 hp hk hlk hwx hrow hrow1 hz0 hz1 hgw hgw1 hwd hlt hs1' hct hlen1 hg1 hs1 hown hrg0 hg0 hs0 hml hpl hb hm1
          generalize s.val x = d at *
          cases hd : (d != 0)
          · have hd' : d = 0 := by simpa using hd
            go_wp2_with (go_at_call 135; refine (a_load p _ _ hpc).mono ?_; rintro e w' ⟨rfl, rfl⟩)
            go_roundw
            case rel => exact ⟨ws, _, _, HRW.out, HW0.out hd', by have := HL1.out; omega, HR1.out, HG1.out⟩
            case measure => rw [HR1.out.left_eq, HR.out.left_eq]; exact HLT.out
          · have hd' : d ≠ 0 := by simpa using hd
            go_wp2_with (first
              | (go_at_call 135; refine (a_load p _ _ hpc).mono ?_; rintro e w' ⟨rfl, rfl⟩)
              | (at_builtin; refine wpList_append_own _ rfl _ _ 243 rfl (w.heap.size + 1) 226 i0 (.agg #[.int .u64 0, .int .u64 0]) 2 16 Tryz.underlying243 HI.out HZ0.out HZ1.out HZ2.out rfl (by decide) _ _ _ rfl (HRW.out.alloc _) ⟨_, 0, none⟩ 1 1 [.int .u64 x, .int .u64 d] rfl rfl (rnews _ x d _) ?c2 ?c3 ?c4 ?c5 ?_))
            case c2 => simp [Value.oneCell']
            case c3 => have := HL1.out; have := HN.out; unfold maxLen; omega
            case c4 => have := HL1.out; have := HN.out; omega
            case c5 => have := HSZ.out; first | omega | (simp; omega)
            intro v' w2 hown' hgrow _
            have hb2 := (HG1.out.alloc HG1.out.size (.cells #[.int .u64 x, .int .u64 d] 226)).grown hgrow (by simp; have := HG1.out.size; omega) (fun j hj => by have := (HRW.out.lt j hj).1; omega)
            have hr2 := (HR1.out.alloc (.cells #[.int .u64 x, .int .u64 d] 226)).kept hgrow (fun c => by have := (HRW.out.lt m c.symm).1; have := HM.out; omega) (fun c => by have := (HRW.out.lt _ c.symm).1; omega)
            have HB2 := Lib.hid hb2; have HR2 := Lib.hid hr2; have HO2 := Lib.hid hown'
            clear hb2 hr2 hown' hgrow
            go_wp2
            go_roundw
            case rel => exact ⟨ws ++ [(x, d)], _, _, by rw [flat2_snoc, show (ws ++ [(x, d)]).length = ws.length + 1 by simp]; exact HO2.out, HW1.out hd', by have := HL1.out; simp; omega, HR2.out, HB2.out⟩
            case measure => rw [HR2.out.left_eq, HR.out.left_eq]; exact HLT.out
end Go.Proofs.YtmakjfeepmiggaaGreat

/-
  An access of both cells, whichever; both new.
-/
namespace Go.Proofs.YtmakjfeepmiggaaGreat
open Go.RowKit Go.Maps
set_option linter.unusedVariables false

theorem alike_zero : Alike CS.zero RS.zero := ⟨rfl, List.Pairwise.nil, (fun p hp => by cases hp), rfl, rfl, rfl, rfl, rfl⟩
theorem far_zero : Far CS.zero RS.zero 1 := ⟨by decide, by decide, by decide⟩
theorem both_new {w0 w w8 : World} {cb : Nat} (hO : Own w0 w cb CS.zero) (hr : RCells w8 w.heap.size w.heap.size (.slice none 0 0) RS.zero) (hle : w0.heap.size ≤ w.heap.size) (hb : Below w.heap.size w w8) : Both w0 w8 cb w.heap.size CS.zero RS.zero :=
  ⟨hO.keep hb, ⟨_, hr.hdr, hle, World.ownsRow_nil _ _ _ _, fun p hp => by cases hp⟩, alike_zero⟩

end Go.Proofs.YtmakjfeepmiggaaGreat

/-
  Are cells the document's, by all that they tell: they are, where both say the same.
-/
namespace Go.Proofs.YtmakjfeepmiggaaGreat
open Go.RowKit Go.Maps
set_option linter.unusedVariables false

theorem words_own {w0 w : World} {b : Nat} {s : CS} (h : Own w0 w b s) (hn : s.n ≤ 1000000) : Calls Tryz.prog 141 #[.pointer (some ⟨b, 0, none⟩)] w fun e w' => ∃ a ws, e = .returned (.slice a ws.length ws.length) ∧ WordsOf w' w.heap.size s.val a ws ∧ Below w.heap.size w w' := by
  obtain ⟨⟨S, hS⟩, hB⟩ := h
  exact words_any w _ b s S hS hn
theorem last_ext {w0 w : World} {b : Nat} {s : CS} (h : Own w0 w b s) (st : ExtW w) : Calls Tryz.prog 69 #[.pointer (some ⟨b, 0, none⟩)] st.val fun e w' => e = .returned (.agg #[.int .u8 s.kind, .int .u64 s.addr, .int .u64 s.was, .int .u64 s.is]) ∧ Below st.val.heap.size st.val w' := by
  obtain ⟨⟨S, hS⟩, hB⟩ := h.keep st.below
  exact last_any _ _ b s S hS
theorem count_ext {w0 w : World} {b : Nat} {s : CS} (h : Own w0 w b s) (st : ExtW w) : Calls Tryz.prog 139 #[.pointer (some ⟨b, 0, none⟩)] st.val fun e w' => e = .returned (.int .i64 s.cnt) ∧ st.val = w' :=
  (count_own (h.keep st.below)).mono fun e w' ⟨he, hw⟩ => ⟨he, hw.symm⟩
theorem peek_ext {w0 w : World} {b : Nat} {s : CS} (h : Own w0 w b s) (a : Int) (ha : (Lit.int .u64 a).wf = true) (v : Int) (hv : s.val a = v) (st : ExtW w) : Calls Tryz.prog 142 #[.pointer (some ⟨b, 0, none⟩), .int .u64 a] st.val fun e w' => e = .returned (.int .u64 v) ∧ st.val = w' := by
  subst hv
  exact (peek_own (h.keep st.below) a ha).mono fun e w' ⟨he, hw⟩ => ⟨he, hw.symm⟩

theorem wfrom_next {wr W : World} {base g k : Nat} {cur : Array Value} {ws : List (Int × Int)} (hgb : base ≤ g) (hg : W.heap[g]? = some (.cells cur 226 (0, 0))) (hc : ∀ i, k ≤ i → (hi : i < ws.length) → cur[i * 2]? = some (.int .u64 (ws[i]).1) ∧ cur[i * 2 + 1]? = some (.int .u64 (ws[i]).2)) (u v : Value) :
    WFrom ((W.setCell ⟨g, k * 2, none⟩ u).setCell ⟨g, k * 2 + 1, none⟩ v) base (some ⟨g, 0, none⟩) ws (k + 1) := by
  refine .inr ⟨g, _, rfl, hgb, setCell_same (setCell_same hg _ _) _ _, fun i hi hl => ?_⟩
  obtain ⟨h1, h2⟩ := hc i (by omega) hl
  have n1 : k * 2 ≠ i * 2 := by omega
  have n2 : k * 2 + 1 ≠ i * 2 := by omega
  have n3 : k * 2 ≠ i * 2 + 1 := by omega
  have n4 : k * 2 + 1 ≠ i * 2 + 1 := by omega
  rw [Array.getElem?_setIfInBounds_ne n2, Array.getElem?_setIfInBounds_ne n1, Array.getElem?_setIfInBounds_ne n4, Array.getElem?_setIfInBounds_ne n3]
  exact ⟨h1, h2⟩
theorem wfrom_below {w w' : World} {base : Nat} {a : Option Addr} {ws : List (Int × Int)} {k : Nat} (h : WFrom w base a ws k) (hb : Below w.heap.size w w') : WFrom w' base a ws k := by
  rcases h with h | ⟨g, cur, ha, h1, h2, h3⟩
  · exact .inl h
  · exact .inr ⟨g, cur, ha, h1, (hb.block g (Array.getElem?_eq_some_iff.1 h2).1).trans h2, h3⟩

set_option maxRecDepth 10000 in
set_option maxHeartbeats 2000000 in
theorem same05_any {w0 w : World} {cb r : Nat} {s : CS} {x : RS} (h : Both w0 w cb r s x) (hn : s.n ≤ 1000000) :
    Calls Tryz.prog 73 #[.pointer (some ⟨cb, 0, none⟩), .pointer (some ⟨r, 0, none⟩)] w fun e w' => e = .returned (.bool true) ∧ Below w.heap.size w w' := by
  have hw := words_own h.own hn
  obtain ⟨lv, hR⟩ := h.ref
  obtain ⟨ad, cap, rfl, hm, hc⟩ := hR.form
  have ha := h.alike
  have hv := ha.val
  obtain ⟨l, cnt, kind, addr, was, is⟩ := x
  have e1 := ha.cnt; have e2 := ha.kind; have e3 := ha.addr; have e4 := ha.was; have e5 := ha.is
  simp only at e1 e2 e3 e4 e5 hv hm hc
  subst e1 e2 e3 e4 e5
  have hrl : r < w.heap.size := (Array.getElem?_eq_some_iff.1 hR.hdr).1
  have k0 : w.cell? ⟨r, 0, none⟩ = some (.slice ad l.length cap) := hR.cell 0
  have k1 : w.cell? ⟨r, 1, none⟩ = some (.int .i64 s.cnt) := hR.cell 1
  have k2 : w.cell? ⟨r, 2, none⟩ = some (.int .u8 s.kind) := hR.cell 2
  have k3 : w.cell? ⟨r, 3, none⟩ = some (.int .u64 s.addr) := hR.cell 3
  have k4 : w.cell? ⟨r, 4, none⟩ = some (.int .u64 s.was) := hR.cell 4
  have k5 : w.cell? ⟨r, 5, none⟩ = some (.int .u64 s.is) := hR.cell 5
  have hris := ha.ris
  have hnz := ha.nz
  have hO := h.own
  have hwf := hR.wf
  simp only at hris hnz hwf
  have HA := Lib.hid (And.intro hris (And.intro hnz hv)); have HO := Lib.hid hO; have HWF := Lib.hid hwf; have HC := Lib.hid hc
  have HK := Lib.hid (And.intro k0 (And.intro k1 (And.intro k2 (And.intro k3 (And.intro k4 k5)))))
  unfold maxLen at hm
  clear h ha hv hR hris hnz hO hwf hc k0 k1 k2 k3 k4 k5 hn
  go_enter Tryz.func73, Tryz.ntmps73
  go_wp2_with (go_at_call 141; refine hw.mono ?_; rintro e w1 ⟨a, ws, rfl, hW, hb⟩)
  obtain rfl : ws = l := ris_eq hW.ris HA.out.1 hW.nz HA.out.2.1 (fun a => by rw [hW.look, HA.out.2.2])
  have c : ∀ o v, w.cell? ⟨r, o, none⟩ = some v → ∀ st : ExtW w1, st.val.cell? ⟨r, o, none⟩ = some v := fun o v h st => st.cell ((hb.cell (p := ⟨r, o, none⟩) hrl).trans h)
  obtain ⟨k0, k1, k2, k3, k4, k5⟩ := HK.out
  have x0 := c _ _ k0; have x1 := c _ _ k1; have x2 := c _ _ k2; have x3 := c _ _ k3; have x4 := c _ _ k4; have x5 := c _ _ k5
  have hcount := fun st : ExtW w1 => count_ext (HO.out.keep hb) st
  have hlast := fun st : ExtW w1 => last_ext (HO.out.keep hb) st
  have HW := Lib.hid hW; have HB := Lib.hid hb
  clear c k0 k1 k2 k3 k4 k5 hW hb hw
  refine wp_region_ext (by kernel_rfl) (by kernel_rfl) ?_
  repeat (go_big_quiet_step (first
    | (go_at_call 139; with_reducible refine calls_ext_same (hcount _))
    | (go_at_call 69; with_reducible refine calls_ext (hlast _))))
  refine wpQuiet_nil ?_
  rintro W ⟨⟨W2, hW2⟩, rfl⟩
  clear x0 x1 x2 x3 x4 x5 hcount hlast
  have hF := wfrom_below HW.out.row hW2
  have hB2 : Below w.heap.size w W := HB.out.trans (hW2.mono HB.out.size)
  have HF := Lib.hid hF; have HB2 := Lib.hid hB2
  clear hF hB2 hW2
  go_wp2
  go_loopw [6] (fun i wr => ∃ k : Nat, k ≤ ws.length ∧ i = .int .i64 k ∧ WFrom wr w.heap.size a ws k ∧ Below w.heap.size w wr) (fun i _ => ws.length - (intOf i).toNat)
  case atStart => exact ⟨0, by omega, rfl, HF.out, HB2.out⟩
  case round =>
    obtain ⟨k, hk, rfl, hf, hbl⟩ := hrel
    by_cases hlt : k < ws.length
    · rcases hf with hf | ⟨g, cur, rfl, hgb, hg, hcur⟩
      · omega
      obtain ⟨gr, rfl, hrow⟩ := HC.out (by omega)
      obtain ⟨r0, r1⟩ := hrow k hlt
      obtain ⟨q0, q1⟩ := hcur k (Nat.le_refl _) hlt
      have hpk : s.val (ws[k]).1 = (ws[k]).2 := by rw [HA.out.2.2]; exact rlook_mem HA.out.1 (List.getElem_mem hlt)
      have hwfk := (HWF.out _ (List.getElem_mem hlt)).1
      have r0 := (hbl.cell (World.block_lt_of_cell? _ _ r0)).trans r0
      have r1 := (hbl.cell (World.block_lt_of_cell? _ _ r1)).trans r1
      have b0 := (hbl.cell (p := ⟨r, 0, none⟩) hrl).trans HK.out.1
      have p0 : wr.cell? ⟨g, k * 2, none⟩ = some (.int .u64 (ws[k]).1) := by simp [World.cell?, hg, q0]
      have p1 : wr.cell? ⟨g, k * 2 + 1, none⟩ = some (.int .u64 (ws[k]).2) := by simp [World.cell?, hg, q1]
      have hpeek := fun st : ExtW wr => peek_ext (HO.out.keep hbl) _ hwfk _ hpk st
      generalize ws[k] = p at *
      obtain ⟨pa, pv⟩ := p
      simp only at r0 r1 p0 p1 q0 q1 hpeek
      have HQ0 := Lib.hid q0; have HQ1 := Lib.hid q1
      have y0 := fun st : ExtW wr => st.cell r0
      have y1 := fun st : ExtW wr => st.cell r1
      have y2 := fun st : ExtW wr => st.cell b0
      have y3 := fun st : ExtW wr => st.cell p0
      have y4 := fun st : ExtW wr => st.cell p1
      have hlt' : (k : Int) < ws.length := by omega
      have HG := Lib.hid hg; have HCU := Lib.hid hcur; have HBL := Lib.hid hbl
      clear r0 r1 b0 p0 p1 q0 q1 hpk hwfk hrow hg hcur hbl
      go_wp2
      refine wp_region_ext (by kernel_rfl) (by kernel_rfl) ?_
      repeat (go_big_quiet_step ((go_at_call 142; with_reducible refine calls_ext_same (hpeek _))))
      refine wpQuiet_nil ?_
      rintro W3 ⟨⟨W4, hW4⟩, rfl⟩
      clear y0 y1 y2 y3 y4 hpeek
      have hg3 := (hW4.block g (Array.getElem?_eq_some_iff.1 HG.out).1).trans HG.out
      have f0 : ∀ o, W3.frozen? ⟨g, o, none⟩ = false := fun o => by simp [World.frozen?, hg3]
      have q0' : cur[k * 2]? = some (.int .u64 pa) := HQ0.out
      have q1' : cur[k * 2 + 1]? = some (.int .u64 pv) := HQ1.out
      have z0 : W3.cell? ⟨g, k * 2, none⟩ = some (.int .u64 pa) := by simp [World.cell?, hg3, q0']
      have z1 : W3.cell? ⟨g, k * 2 + 1, none⟩ = some (.int .u64 pv) := by simp [World.cell?, hg3, q1']
      clear q0' q1'
      have HN := Lib.hid (fun u v => wfrom_next (wr := wr) hgb hg3 HCU.out u v)
      have HB4 : Hid (Below w.heap.size w W3) := HBL.out.trans (hW4.mono HBL.out.size)
      clear hg3 hW4
      go_wp2
      go_roundw
      case rel => exact ⟨k + 1, by omega, by go_num, HN.out _ _, by
        have := keeps_below ((setCell_keeps W3 g (k * 2) (.int .u64 0)).again (setCell_keeps _ g (k * 2 + 1) (.int .u64 0))) HB4.out HB4.out.size (fun q e => by omega)
        exact this⟩
      case measure => simp [intOf]; omega
    · obtain rfl : k = ws.length := by omega
      have HB := Lib.hid hbl
      clear hf hbl
      go_wp2
      go_ret
      exact ⟨rfl, HB.out⟩
end Go.Proofs.YtmakjfeepmiggaaGreat

/-
  Pair.SameAll, where nothing was noted.
-/
namespace Go.Proofs.YtmakjfeepmiggaaGreat
open Go.RowKit Go.Maps
set_option linter.unusedVariables false

theorem nclip_nil (w : World) : Calls Tryz.prog 222 #[.slice none 0 0] w fun e w' => e = .returned (.slice none 0 0) ∧ w' = w := by
  go_enter Tryz.func222, Tryz.ntmps222
  go_wp2
  go_ret
  exact ⟨rfl, rfl⟩
theorem picked_nil {w : World} {base nb TN : Nat} (h : NL w base nb 286 TN .u8 []) (g : Value) : Calls Tryz.prog 187 #[.pointer (some ⟨nb, 0, none⟩), g] w fun e w' => e = .returned (.slice none 0 0) ∧ Below w.heap.size w w' := by
  obtain ⟨a, cap, -, hn⟩ := notes_any h
  clear h
  go_enter Tryz.func187, Tryz.ntmps187
  go_wp2_with (go_at_call 140; refine hn.mono ?_; rintro e w' ⟨rfl, rfl⟩)
  refine wp_loop_rounds 1 ?_
  rw [rounds_succ]
  go_wp2_with (go_at_call 222; refine (nclip_nil _).mono ?_; rintro e w' ⟨rfl, rfl⟩)
  go_ret
  exact ⟨rfl, Below.refl _ _⟩
theorem since_nil {w : World} {base nb TN : Nat} (h : NL w base nb 286 TN .u8 []) (n : Int) : Calls Tryz.prog 143 #[.pointer (some ⟨nb, 0, none⟩), .int .i64 n] w fun e w' => e = .returned (.slice none 0 0) ∧ Below w.heap.size w w' := by
  have hb := below_alloc w (.cells #[.int .i64 n] 3)
  have hp := fun g => picked_nil (h.fr (below_fr hb (fun _ => false) false) rfl rfl) g
  clear h
  go_enter Tryz.func143, Tryz.ntmps143
  go_wp2_with (go_at_call 187; refine (hp _).mono ?_; rintro e w' ⟨rfl, b⟩)
  go_ret
  exact ⟨rfl, hb.trans (b.mono hb.size)⟩
theorem all_nil {w : World} {base nb TN : Nat} (h : NL w base nb 286 TN .u8 []) : Calls Tryz.prog 74 #[.pointer (some ⟨nb, 0, none⟩)] w fun e w' => e = .returned (.slice none 0 0) ∧ Below w.heap.size w w' := by
  have hp := since_nil h 0
  clear h
  go_enter Tryz.func74, Tryz.ntmps74
  go_wp2_with (go_at_call 143; refine hp.mono ?_; rintro e w' ⟨rfl, b⟩)
  go_ret
  exact ⟨rfl, b⟩
section
variable {w0 w : World} {B R : WB} {V : WV} {s : CS} {x : RS}
theorem WS.iat (h : WS w0 w B V s) (hl : V.its.length ≤ 1048576) (r : Int) : Calls Tryz.prog 75 #[.pointer (some ⟨B.ib, 0, none⟩), .int .i64 r] w fun e w' => e = .returned (.tuple #[.agg #[.string ((atOf V.its r).1).key, .string ((atOf V.its r).1).val, .int .u32 ((atOf V.its r).1).flags, .int .u64 ((atOf V.its r).1).id, .int .i64 ((atOf V.its r).1).dies, .int .i64 ((atOf V.its r).1).gen], .bool (atOf V.its r).2]) ∧ Below w.heap.size w w' := by
  obtain ⟨S, hS⟩ := h.ar
  exact iat_any _ _ _ S r w hS hl
theorem RD.iat (h : RD w0 w R V x) (hl : V.its.length ≤ 1048576) (r : Int) : Calls Tryz.prog 76 #[.pointer (some ⟨R.ib, 0, none⟩), .int .i64 r] w fun e w' => e = .returned (.tuple #[.agg #[.string ((atOf V.its r).1).key, .string ((atOf V.its r).1).val, .int .u32 ((atOf V.its r).1).flags, .int .u64 ((atOf V.its r).1).id, .int .i64 ((atOf V.its r).1).dies, .int .i64 ((atOf V.its r).1).gen], .bool (atOf V.its r).2]) ∧ Below w.heap.size w w' := by
  obtain ⟨S, hS⟩ := h.ar
  exact rat_any _ _ _ S r w hS hl

set_option maxRecDepth 10000 in
set_option maxHeartbeats 4000000 in
theorem psall_any (h : Pr w0 w B R V s x) (hV : V.nts = []) (hl : V.its.length ≤ 1000000) (hsn : s.n ≤ 1000000) :
    Calls Tryz.prog 17 #[.agg #[.pointer (some ⟨B.wb, 0, none⟩), .pointer (some ⟨R.wb, 0, none⟩)]] w fun e w' => e = .returned (.bool true) ∧ Below w.heap.size w w' := by
  have hq0 := heap_alloc_new w (.cells #[.pointer (some ⟨B.wb, 0, none⟩), .pointer (some ⟨R.wb, 0, none⟩)] 34)
  have hB1 := below_alloc w (.cells #[.pointer (some ⟨B.wb, 0, none⟩), .pointer (some ⟨R.wb, 0, none⟩)] 34)
  have H1 := Lib.hid (h.keep hB1); have HQ := Lib.hid hq0; have HB1 := Lib.hid hB1; have HV := Lib.hid hV; have HL := Lib.hid hl; have HSN := Lib.hid hsn
  clear h hq0 hB1 hV hl hsn
  go_enter Tryz.func17, Tryz.ntmps17
  go_upto_region 1 with (fail)
  change Code.wp _ _ _ _ (w.alloc (.cells #[.pointer (some ⟨B.wb, 0, none⟩), .pointer (some ⟨R.wb, 0, none⟩)] 34))
  generalize w.alloc (.cells #[.pointer (some ⟨B.wb, 0, none⟩), .pointer (some ⟨R.wb, 0, none⟩)] 34) = w1 at *
  have hq := HQ.out
  have q0 := fun st : ExtW w1 => st.cell (hcell hq 0)
  have q1 := fun st : ExtW w1 => st.cell (hcell hq 1)
  have d0 := fun st : ExtW w1 => st.cell H1.out.ws.hd.1
  have g0 := fun st : ExtW w1 => st.cell H1.out.rd.hd.1
  have hs := fun st : ExtW w1 => psame_any (H1.out.keep st.below)
  have h5 := fun st : ExtW w1 => same05_any (⟨(H1.out.keep st.below).ws.own, (H1.out.keep st.below).rd.ref, (H1.out.keep st.below).al⟩ : Both w0 st.val B.cb R.cb s x) HSN.out
  clear hq
  refine wp_region_ext (by kernel_rfl) (by kernel_rfl) ?_
  repeat (go_big_quiet_step (first
    | (go_at_call 16; with_reducible refine calls_ext (hs _))
    | (go_at_call 73; with_reducible refine calls_ext (h5 _))))
  refine wpQuiet_nil ?_
  rintro W2 ⟨⟨W3, hW⟩, rfl⟩
  have H2 := Lib.hid (H1.out.keep hW)
  have HQ2 := Lib.hid ((hW.block _ (Array.getElem?_eq_some_iff.1 HQ.out).1).trans HQ.out)
  have HB2 : Hid (Below w.heap.size w W2) := HB1.out.trans (hW.mono HB1.out.size)
  clear q0 q1 d0 g0 hs h5 hW H1 HQ HB1
  have p0 := hcell HQ2.out 0
  have p1 := hcell HQ2.out 1
  obtain ⟨c0, c1, c2, c72⟩ := H2.out.ws.hd
  have hnt := H2.out.ws.nt
  rw [HV.out] at hnt
  have hal := all_nil hnt
  clear hnt
  go_upto_region 4 with (go_at_call 74; refine hal.mono ?_; rintro e w4 ⟨rfl, b4⟩; have H4 := Lib.hid (H2.out.keep b4); have HQ4 := Lib.hid ((b4.block _ (Array.getElem?_eq_some_iff.1 HQ2.out).1).trans HQ2.out); have HB4 : Hid (Below w.heap.size w w4) := HB2.out.trans (b4.mono HB2.out.size); clear b4 hal p0 p1 c0 c1 c2 c72)
  clear H2 HQ2 HB2
  have p0 := hcell HQ4.out 0
  have p1 := hcell HQ4.out 1
  obtain ⟨r0, r1, r2, r72⟩ := H4.out.rd.hd
  obtain ⟨nv, hn1, hn2, hn3⟩ := H4.out.rd.nt
  obtain ⟨na, ncap, hnv⟩ := own_sl hn3
  subst hnv
  rw [HV.out] at hn1
  have n0 : w4.cell? ⟨R.nb, 0, none⟩ = some (.slice na 0 ncap) := hcell hn1 0
  clear hn1 hn2 hn3
  go_wp2_with fail
  refine wp_loop_rounds 1 ?_
  rw [rounds_succ]
  go_wp2_with fail
  clear p0 p1 r0 r1 r2 r72 n0
  go_loopw [6] (fun i wr => ∃ k : Nat, k ≤ V.its.length + 2 ∧ i = .int .i64 k ∧ Pr w0 wr B R V s x ∧ wr.heap[w.heap.size]? = some (.cells #[.pointer (some ⟨B.wb, 0, none⟩), .pointer (some ⟨R.wb, 0, none⟩)] 34 (0, 0)) ∧ Below w.heap.size w wr) (fun i _ => V.its.length + 2 - (intOf i).toNat)
  case atStart => exact ⟨0, by omega, rfl, H4.out, HQ4.out, HB4.out⟩
  case round =>
    clear H4 HQ4 HB4
    obtain ⟨k, hk, rfl, h, hq, hB⟩ := hrel
    have p0 := hcell hq 0
    have p1 := hcell hq 1
    obtain ⟨c0, c1, c2, c72⟩ := h.ws.hd
    obtain ⟨r0, r1, r2, r72⟩ := h.rd.hd
    have hri := h.rd.icount
    have hl := HL.out
    by_cases hlt : k ≤ V.its.length + 1
    · have hlt' : (k : Int) ≤ V.its.length + 1 := by omega
      have hia := h.ws.iat (by omega) k
      obtain ⟨yy, hye⟩ : ∃ yy, atOf V.its k = yy := ⟨_, rfl⟩
      rw [hye] at hia
      have HYE := Lib.hid hye
      clear hye
      have HRI := Lib.hid h; have HQ := Lib.hid hq; have HB := Lib.hid hB
      clear h hq hB
      go_upto_region 16 with (first
        | (go_at_call 72; with_reducible refine hri.mono ?_; rintro e w' ⟨rfl, hw⟩; obtain rfl := hw; clear hri)
        | (go_at_call 75; with_reducible refine hia.mono ?_; rintro e w5 ⟨rfl, b5⟩; clear hia p0 p1 c0 c1 c2 c72 r0 r1 r2 r72; have H5 := Lib.hid b5))
      obtain ⟨y, yb⟩ := yy
      simp only []
      have hb6 := below_alloc w5 (.cells y.cells.toArray 80)
      have hy6 : Box (w5.alloc (.cells y.cells.toArray 80)) w5.heap.size y := heap_alloc_new w5 _
      change Code.wp _ _ _ _ (w5.alloc (.cells y.cells.toArray 80))
      generalize w5.alloc (.cells y.cells.toArray 80) = w6 at *
      have hb16 : Below wr.heap.size wr w6 := H5.out.trans (hb6.mono H5.out.size)
      generalize w5.heap.size = qa at *
      have HY6 := Lib.hid hy6
      have H6 := Lib.hid (HRI.out.keep hb16)
      have HQ6 := Lib.hid ((hb16.block _ (Array.getElem?_eq_some_iff.1 HQ.out).1).trans HQ.out)
      have HB6 : Hid (Below w.heap.size w w6) := HB.out.trans (hb16.mono HB.out.size)
      have p1 := hcell HQ6.out 1
      have r1 := H6.out.rd.hd.2.1
      have hrb := H6.out.rd.iat (by have := HL.out; omega) k
      rw [HYE.out] at hrb
      clear hb6 hy6 hb16 H5 HRI HQ HB
      go_upto_region 17 with (go_at_call 76; with_reducible refine hrb.mono ?_; rintro e w7 ⟨rfl, b7⟩; clear hrb p1 r1; have H7 := Lib.hid b7)
      have hb8 := below_alloc w7 (.cells y.cells.toArray 80)
      have hy8 : Box (w7.alloc (.cells y.cells.toArray 80)) w7.heap.size y := heap_alloc_new w7 _
      change Code.wp _ _ _ _ (w7.alloc (.cells y.cells.toArray 80))
      generalize w7.alloc (.cells y.cells.toArray 80) = w8 at *
      have hb68 : Below w6.heap.size w6 w8 := H7.out.trans (hb8.mono H7.out.size)
      generalize w7.heap.size = qb at *
      have hya : Box w8 qa y := HY6.out.below hb68
      obtain ⟨a0, a1, a2, a3, a4, a5⟩ := hya.cells
      obtain ⟨e0, e1, e2, e3, e4, e5⟩ := hy8.cells
      have H8 := Lib.hid (H6.out.keep hb68)
      have HQ8 := Lib.hid ((hb68.block _ (Array.getElem?_eq_some_iff.1 HQ6.out).1).trans HQ6.out)
      have HB8 : Hid (Below w.heap.size w w8) := HB6.out.trans (hb68.mono HB6.out.size)
      clear hb8 hb68 hya hy8 H6 HQ6 HB6 HY6 H7
      go_wp2_with fail
      go_roundw
      case rel => exact ⟨k + 1, by omega, by go_num, H8.out, HQ8.out, HB8.out⟩
      case measure => simp [intOf]; omega
    · obtain rfl : k = V.its.length + 2 := by omega
      have hlt' : (V.its.length : Int) + 1 < ((V.its.length + 2 : Nat) : Int) := by omega
      have HB9 := Lib.hid hB
      clear h hq hB
      go_wp2_with (go_at_call 72; with_reducible refine hri.mono ?_; rintro e w' ⟨rfl, hw⟩; obtain rfl := hw; clear hri)
      go_ret
      exact ⟨rfl, HB9.out⟩
end
end Go.Proofs.YtmakjfeepmiggaaGreat

/-
  SameAll, with notes.
-/
namespace Go.Proofs.YtmakjfeepmiggaaGreat
open Go.RowKit Go.Maps
set_option linter.unusedVariables false

/-- Are the notes of kinds? -/
def Nkinds (l : List Nte) : Prop := ∀ y ∈ l, 1 ≤ y.kind ∧ y.kind ≤ 9
theorem Nkinds.add {l : List Nte} {n : Nte} (h : Nkinds l) : Nkinds (nadd l n) := by
  unfold nadd
  split
  · rename_i hk
    intro y hy
    rcases List.mem_append.1 hy with h1 | h1
    · exact h y h1
    · simp only [List.mem_singleton] at h1; subst h1; exact hk
  · exact h
theorem NRow.sl {w : World} {base : Nat} {v : Value} {l : List Nte} (h : NRow w base v l) : ∃ a, v = .slice a l.length l.length := by
  rcases h with ⟨rfl, rfl⟩ | ⟨g, cur, rfl, _⟩
  · exact ⟨none, rfl⟩
  · exact ⟨_, rfl⟩
theorem NRow.below {w w' : World} {base : Nat} {v : Value} {l : List Nte} (h : NRow w base v l) (hb : Below w.heap.size w w') : NRow w' base v l := by
  rcases h with h | ⟨g, cur, hv, h1, h2, h3⟩
  · exact .inl h
  · exact .inr ⟨g, cur, hv, h1, (hb.block _ (Array.getElem?_eq_some_iff.1 h2).1).trans h2, h3⟩
section
variable {w0 w : World} {B R : WB} {V : WV} {s : CS} {x : RS}
set_option maxRecDepth 10000 in
set_option maxHeartbeats 4000000 in
theorem psalln_any (h : Pr w0 w B R V s x) (hnl : V.nts.length ≤ 1000000) (hkd : Nkinds V.nts) (hl : V.its.length ≤ 1000000) (hsn : s.n ≤ 1000000) :
    Calls Tryz.prog 17 #[.agg #[.pointer (some ⟨B.wb, 0, none⟩), .pointer (some ⟨R.wb, 0, none⟩)]] w fun e w' => e = .returned (.bool true) ∧ Below w.heap.size w w' := by
  have hq0 := heap_alloc_new w (.cells #[.pointer (some ⟨B.wb, 0, none⟩), .pointer (some ⟨R.wb, 0, none⟩)] 34)
  have hB1 := below_alloc w (.cells #[.pointer (some ⟨B.wb, 0, none⟩), .pointer (some ⟨R.wb, 0, none⟩)] 34)
  have H1 := Lib.hid (h.keep hB1); have HQ := Lib.hid hq0; have HB1 := Lib.hid hB1; have HNL := Lib.hid hnl; have HKD := Lib.hid hkd; have HL := Lib.hid hl; have HSN := Lib.hid hsn
  clear h hq0 hB1 hnl hkd hl hsn
  go_enter Tryz.func17, Tryz.ntmps17
  go_upto_region 1 with (fail)
  change Code.wp _ _ _ _ (w.alloc (.cells #[.pointer (some ⟨B.wb, 0, none⟩), .pointer (some ⟨R.wb, 0, none⟩)] 34))
  generalize w.alloc (.cells #[.pointer (some ⟨B.wb, 0, none⟩), .pointer (some ⟨R.wb, 0, none⟩)] 34) = w1 at *
  have hq := HQ.out
  have q0 := fun st : ExtW w1 => st.cell (hcell hq 0)
  have q1 := fun st : ExtW w1 => st.cell (hcell hq 1)
  have d0 := fun st : ExtW w1 => st.cell H1.out.ws.hd.1
  have g0 := fun st : ExtW w1 => st.cell H1.out.rd.hd.1
  have hs := fun st : ExtW w1 => psame_any (H1.out.keep st.below)
  have h5 := fun st : ExtW w1 => same05_any (⟨(H1.out.keep st.below).ws.own, (H1.out.keep st.below).rd.ref, (H1.out.keep st.below).al⟩ : Both w0 st.val B.cb R.cb s x) HSN.out
  clear hq
  refine wp_region_ext (by kernel_rfl) (by kernel_rfl) ?_
  repeat (go_big_quiet_step (first
    | (go_at_call 16; with_reducible refine calls_ext (hs _))
    | (go_at_call 73; with_reducible refine calls_ext (h5 _))))
  refine wpQuiet_nil ?_
  rintro W2 ⟨⟨W3, hW⟩, rfl⟩
  have H2 := Lib.hid (H1.out.keep hW)
  have HQ2 := Lib.hid ((hW.block _ (Array.getElem?_eq_some_iff.1 HQ.out).1).trans HQ.out)
  have HB2 : Hid (Below w.heap.size w W2) := HB1.out.trans (hW.mono HB1.out.size)
  clear q0 q1 d0 g0 hs h5 hW H1 HQ HB1
  have p0 := hcell HQ2.out 0
  have p1 := hcell HQ2.out 1
  obtain ⟨c0, c1, c2, c72⟩ := H2.out.ws.hd
  have hal := lall_any H2.out.ws.nt (by have := HNL.out; omega)
  go_upto_region 4 with (go_at_call 74; refine hal.mono ?_; intro e w4 hh; obtain ⟨v, hh1, hr, b4⟩ := hh; subst hh1; have HNR := Lib.hid hr; have H4 := Lib.hid (H2.out.keep b4); have HQ4 := Lib.hid ((b4.block _ (Array.getElem?_eq_some_iff.1 HQ2.out).1).trans HQ2.out); have HB4 : Hid (Below w.heap.size w w4) := HB2.out.trans (b4.mono HB2.out.size); clear hr b4 hal p0 p1 c0 c1 c2 c72)
  clear H2 HQ2 HB2
  obtain ⟨va, rfl⟩ := HNR.out.sl
  have p0 := hcell HQ4.out 0
  have p1 := hcell HQ4.out 1
  obtain ⟨r0, r1, r2, r72⟩ := H4.out.rd.hd
  obtain ⟨nv, hn1, hn2, hn3⟩ := H4.out.rd.nt
  obtain ⟨na, ncap, hnv⟩ := own_sl hn3
  subst hnv
  have n0 : w4.cell? ⟨R.nb, 0, none⟩ = some (.slice na V.nts.length ncap) := hcell hn1 0
  clear hn1 hn2 hn3
  go_wp2_with fail
  clear p0 p1 r0 r1 r2 r72 n0
  go_loopw [4] (fun i wr => ∃ k : Nat, k ≤ V.nts.length ∧ i = .int .i64 k ∧ Pr w0 wr B R V s x ∧ wr.heap[w.heap.size]? = some (.cells #[.pointer (some ⟨B.wb, 0, none⟩), .pointer (some ⟨R.wb, 0, none⟩)] 34 (0, 0)) ∧ NRow wr W2.heap.size (.slice va V.nts.length V.nts.length) V.nts ∧ Below w.heap.size w wr) (fun i _ => V.nts.length - (intOf i).toNat)
  case atStart => exact ⟨0, by omega, rfl, H4.out, HQ4.out, HNR.out, HB4.out⟩
  case round =>
   clear H4 HQ4 HB4 HNR
   obtain ⟨k, hk, rfl, h, hq, hnr, hB⟩ := hrel
   have hnlb := HNL.out
   by_cases hlt : k < V.nts.length
   · have hlt' : (k : Int) < V.nts.length := by omega
     have p0 := hcell hq 0
     have p1 := hcell hq 1
     obtain ⟨r0, r1, r2, r72⟩ := h.rd.hd
     obtain ⟨nv, hn1, hn2, hn3⟩ := h.rd.nt
     obtain ⟨na, ncap, hnv⟩ := own_sl hn3
     subst hnv
     have n0 : wr.cell? ⟨R.nb, 0, none⟩ = some (.slice na V.nts.length ncap) := hcell hn1 0
     obtain ⟨g, hv, hcs⟩ := hnr.at k hlt
     simp only [Value.slice.injEq, and_true] at hv
     obtain ⟨rg, hrv, hrs⟩ := rrow8_at hn3 k hlt
     subst hrv
     obtain ⟨y, hy⟩ : ∃ y, y = V.nts[k]'hlt := ⟨_, rfl⟩
     rw [← hy] at hcs hrs
     have hkk := HKD.out y (by rw [hy]; exact List.getElem_mem hlt)
     have q0 : wr.cell? ⟨rg, k * 8, none⟩ = some (.int .i64 y.step) := hrs 0 (by omega)
     have q1 : wr.cell? ⟨rg, k * 8 + 1, none⟩ = some (.int .i64 y.thread) := hrs 1 (by omega)
     have q2 : wr.cell? ⟨rg, k * 8 + 2, none⟩ = some (.int .i64 y.kind) := hrs 2 (by omega)
     have q3 : wr.cell? ⟨rg, k * 8 + 3, none⟩ = some (.int .i64 y.ref) := hrs 3 (by omega)
     have q4 : wr.cell? ⟨rg, k * 8 + 4, none⟩ = some (.int .i64 y.bits) := hrs 4 (by omega)
     have q5 : wr.cell? ⟨rg, k * 8 + 5, none⟩ = some (.int .i64 y.bucket) := hrs 5 (by omega)
     have q6 : wr.cell? ⟨rg, k * 8 + 6, none⟩ = some (.int .i64 y.slot) := hrs 6 (by omega)
     have q7 : wr.cell? ⟨rg, k * 8 + 7, none⟩ = some (.int .i64 y.value) := hrs 7 (by omega)
     have HR := Lib.hid h; have HQ := Lib.hid hq; have HNRR := Lib.hid hnr; have HB := Lib.hid hB; have HCS := Lib.hid hcs; have HVV := Lib.hid hv; have HKK := Lib.hid hkk
     clear h hq hnr hB hn1 hn2 hn3 hcs hrs hy hv hkk r0 r1 r72
     go_upto_region 10 with (fail)
     have hb5 := below_alloc wr (.cells (nteC .i64 y).toArray 168)
     have hz5 := heap_alloc_new wr (.cells (nteC .i64 y).toArray 168)
     have HB5 := Lib.hid hb5; have HZ5 := Lib.hid hz5
     clear hb5 hz5 p0 p1 r2 n0 q0 q1 q2 q3 q4 q5 q6 q7
     change Code.wp _ _ _ _ (wr.alloc (.cells (nteC .i64 y).toArray 168))
     have x0 : ∀ st : ExtW (wr.alloc (.cells (nteC .i64 y).toArray 168)), st.val.cell? ⟨g, k * 8, none⟩ = some (.int .i64 y.step) := fun st => st.cell ((HB5.out.cell (p := ⟨g, k * 8, none⟩) (World.block_lt_of_cell? _ _ (HCS.out 0 (by omega)))).trans (HCS.out 0 (by omega)))
     have x1 : ∀ st : ExtW (wr.alloc (.cells (nteC .i64 y).toArray 168)), st.val.cell? ⟨g, k * 8 + 1, none⟩ = some (.int .i64 y.thread) := fun st => st.cell ((HB5.out.cell (p := ⟨g, k * 8 + 1, none⟩) (World.block_lt_of_cell? _ _ (HCS.out 1 (by omega)))).trans (HCS.out 1 (by omega)))
     have x2 : ∀ st : ExtW (wr.alloc (.cells (nteC .i64 y).toArray 168)), st.val.cell? ⟨g, k * 8 + 2, none⟩ = some (.int .u8 y.kind) := fun st => st.cell ((HB5.out.cell (p := ⟨g, k * 8 + 2, none⟩) (World.block_lt_of_cell? _ _ (HCS.out 2 (by omega)))).trans (HCS.out 2 (by omega)))
     have x3 : ∀ st : ExtW (wr.alloc (.cells (nteC .i64 y).toArray 168)), st.val.cell? ⟨g, k * 8 + 3, none⟩ = some (.int .i64 y.ref) := fun st => st.cell ((HB5.out.cell (p := ⟨g, k * 8 + 3, none⟩) (World.block_lt_of_cell? _ _ (HCS.out 3 (by omega)))).trans (HCS.out 3 (by omega)))
     have x4 : ∀ st : ExtW (wr.alloc (.cells (nteC .i64 y).toArray 168)), st.val.cell? ⟨g, k * 8 + 4, none⟩ = some (.int .i64 y.bits) := fun st => st.cell ((HB5.out.cell (p := ⟨g, k * 8 + 4, none⟩) (World.block_lt_of_cell? _ _ (HCS.out 4 (by omega)))).trans (HCS.out 4 (by omega)))
     have x5 : ∀ st : ExtW (wr.alloc (.cells (nteC .i64 y).toArray 168)), st.val.cell? ⟨g, k * 8 + 5, none⟩ = some (.int .i64 y.bucket) := fun st => st.cell ((HB5.out.cell (p := ⟨g, k * 8 + 5, none⟩) (World.block_lt_of_cell? _ _ (HCS.out 5 (by omega)))).trans (HCS.out 5 (by omega)))
     have x6 : ∀ st : ExtW (wr.alloc (.cells (nteC .i64 y).toArray 168)), st.val.cell? ⟨g, k * 8 + 6, none⟩ = some (.int .i64 y.slot) := fun st => st.cell ((HB5.out.cell (p := ⟨g, k * 8 + 6, none⟩) (World.block_lt_of_cell? _ _ (HCS.out 6 (by omega)))).trans (HCS.out 6 (by omega)))
     have x7 : ∀ st : ExtW (wr.alloc (.cells (nteC .i64 y).toArray 168)), st.val.cell? ⟨g, k * 8 + 7, none⟩ = some (.int .i64 y.value) := fun st => st.cell ((HB5.out.cell (p := ⟨g, k * 8 + 7, none⟩) (World.block_lt_of_cell? _ _ (HCS.out 7 (by omega)))).trans (HCS.out 7 (by omega)))
     generalize wr.alloc (.cells (nteC .i64 y).toArray 168) = w5 at *
     have HR5 := Lib.hid (HR.out.keep HB5.out)
     have HQ5 := Lib.hid ((HB5.out.block _ (Array.getElem?_eq_some_iff.1 HQ.out).1).trans HQ.out)
     have HN5 := Lib.hid (HNRR.out.below HB5.out)
     have HBB : Hid (Below w.heap.size w w5) := HB.out.trans (HB5.out.mono HB.out.size)
     clear HR HQ HNRR HB HCS HB5
     generalize wr.heap.size = nq at *
     have z0 : ∀ st : ExtW w5, st.val.cell? ⟨nq, 0, none⟩ = some (.int .i64 y.step) := fun st => st.cell (hcell HZ5.out 0)
     have z1 : ∀ st : ExtW w5, st.val.cell? ⟨nq, 1, none⟩ = some (.int .i64 y.thread) := fun st => st.cell (hcell HZ5.out 1)
     have z2 : ∀ st : ExtW w5, st.val.cell? ⟨nq, 2, none⟩ = some (.int .i64 y.kind) := fun st => st.cell (hcell HZ5.out 2)
     have z3 : ∀ st : ExtW w5, st.val.cell? ⟨nq, 3, none⟩ = some (.int .i64 y.ref) := fun st => st.cell (hcell HZ5.out 3)
     have z4 : ∀ st : ExtW w5, st.val.cell? ⟨nq, 4, none⟩ = some (.int .i64 y.bits) := fun st => st.cell (hcell HZ5.out 4)
     have z5 : ∀ st : ExtW w5, st.val.cell? ⟨nq, 5, none⟩ = some (.int .i64 y.bucket) := fun st => st.cell (hcell HZ5.out 5)
     have z6 : ∀ st : ExtW w5, st.val.cell? ⟨nq, 6, none⟩ = some (.int .i64 y.slot) := fun st => st.cell (hcell HZ5.out 6)
     have z7 : ∀ st : ExtW w5, st.val.cell? ⟨nq, 7, none⟩ = some (.int .i64 y.value) := fun st => st.cell (hcell HZ5.out 7)
     have hva := HVV.out
     have hkk := HKK.out
     have ekk : wrap64 y.kind = y.kind := IntWalk.wrap64_in _ (by omega)
     clear hkk
     subst hva
     refine wp_region_ext (by kernel_rfl) (by kernel_rfl) ?_
     repeat (go_big_quiet_step (fail))
     refine wpQuiet_nil ?_
     rintro W9 ⟨⟨W8, hW⟩, rfl⟩
     clear x0 x1 x2 x3 x4 x5 x6 x7 z0 z1 z2 z3 z4 z5 z6 z7 ekk
     have HW := Lib.hid hW
     clear hW
     go_wp2_with fail
     go_roundw
     case rel => exact ⟨k + 1, by omega, by go_num, HR5.out.keep HW.out, (HW.out.block _ (Array.getElem?_eq_some_iff.1 HQ5.out).1).trans HQ5.out, HN5.out.below HW.out, HBB.out.trans (HW.out.mono HBB.out.size)⟩
     case measure => simp [intOf]; omega
   obtain rfl : k = V.nts.length := by omega
   have H4 := Lib.hid h; have HQ4 := Lib.hid hq; have HB4 := Lib.hid hB
   clear h hq hB hnr hlt
   go_wp2_with fail
   go_loopw [6] (fun i wr => ∃ k : Nat, k ≤ V.its.length + 2 ∧ i = .int .i64 k ∧ Pr w0 wr B R V s x ∧ wr.heap[w.heap.size]? = some (.cells #[.pointer (some ⟨B.wb, 0, none⟩), .pointer (some ⟨R.wb, 0, none⟩)] 34 (0, 0)) ∧ Below w.heap.size w wr) (fun i _ => V.its.length + 2 - (intOf i).toNat)
   case atStart => exact ⟨0, by omega, rfl, H4.out, HQ4.out, HB4.out⟩
   case round =>
     clear H4 HQ4 HB4
     obtain ⟨k, hk, rfl, h, hq, hB⟩ := hrel
     have p0 := hcell hq 0
     have p1 := hcell hq 1
     obtain ⟨c0, c1, c2, c72⟩ := h.ws.hd
     obtain ⟨r0, r1, r2, r72⟩ := h.rd.hd
     have hri := h.rd.icount
     have hl := HL.out
     by_cases hlt : k ≤ V.its.length + 1
     · have hlt' : (k : Int) ≤ V.its.length + 1 := by omega
       have hia := h.ws.iat (by omega) k
       obtain ⟨yy, hye⟩ : ∃ yy, atOf V.its k = yy := ⟨_, rfl⟩
       rw [hye] at hia
       have HYE := Lib.hid hye
       clear hye
       have HRI := Lib.hid h; have HQ := Lib.hid hq; have HB := Lib.hid hB
       clear h hq hB
       go_upto_region 16 with (first
         | (go_at_call 72; with_reducible refine hri.mono ?_; rintro e w' ⟨rfl, hw⟩; obtain rfl := hw; clear hri)
         | (go_at_call 75; with_reducible refine hia.mono ?_; rintro e w5 ⟨rfl, b5⟩; clear hia p0 p1 c0 c1 c2 c72 r0 r1 r2 r72; have H5 := Lib.hid b5))
       obtain ⟨y, yb⟩ := yy
       simp only []
       have hb6 := below_alloc w5 (.cells y.cells.toArray 80)
       have hy6 : Box (w5.alloc (.cells y.cells.toArray 80)) w5.heap.size y := heap_alloc_new w5 _
       change Code.wp _ _ _ _ (w5.alloc (.cells y.cells.toArray 80))
       generalize w5.alloc (.cells y.cells.toArray 80) = w6 at *
       have hb16 : Below wr.heap.size wr w6 := H5.out.trans (hb6.mono H5.out.size)
       generalize w5.heap.size = qa at *
       have HY6 := Lib.hid hy6
       have H6 := Lib.hid (HRI.out.keep hb16)
       have HQ6 := Lib.hid ((hb16.block _ (Array.getElem?_eq_some_iff.1 HQ.out).1).trans HQ.out)
       have HB6 : Hid (Below w.heap.size w w6) := HB.out.trans (hb16.mono HB.out.size)
       have p1 := hcell HQ6.out 1
       have r1 := H6.out.rd.hd.2.1
       have hrb := H6.out.rd.iat (by have := HL.out; omega) k
       rw [HYE.out] at hrb
       clear hb6 hy6 hb16 H5 HRI HQ HB
       go_upto_region 17 with (go_at_call 76; with_reducible refine hrb.mono ?_; rintro e w7 ⟨rfl, b7⟩; clear hrb p1 r1; have H7 := Lib.hid b7)
       have hb8 := below_alloc w7 (.cells y.cells.toArray 80)
       have hy8 : Box (w7.alloc (.cells y.cells.toArray 80)) w7.heap.size y := heap_alloc_new w7 _
       change Code.wp _ _ _ _ (w7.alloc (.cells y.cells.toArray 80))
       generalize w7.alloc (.cells y.cells.toArray 80) = w8 at *
       have hb68 : Below w6.heap.size w6 w8 := H7.out.trans (hb8.mono H7.out.size)
       generalize w7.heap.size = qb at *
       have hya : Box w8 qa y := HY6.out.below hb68
       obtain ⟨a0, a1, a2, a3, a4, a5⟩ := hya.cells
       obtain ⟨e0, e1, e2, e3, e4, e5⟩ := hy8.cells
       have H8 := Lib.hid (H6.out.keep hb68)
       have HQ8 := Lib.hid ((hb68.block _ (Array.getElem?_eq_some_iff.1 HQ6.out).1).trans HQ6.out)
       have HB8 : Hid (Below w.heap.size w w8) := HB6.out.trans (hb68.mono HB6.out.size)
       clear hb8 hb68 hya hy8 H6 HQ6 HB6 HY6 H7
       go_wp2_with fail
       go_roundw
       case rel => exact ⟨k + 1, by omega, by go_num, H8.out, HQ8.out, HB8.out⟩
       case measure => simp [intOf]; omega
     · obtain rfl : k = V.its.length + 2 := by omega
       have hlt' : (V.its.length : Int) + 1 < ((V.its.length + 2 : Nat) : Int) := by omega
       have HB9 := Lib.hid hB
       clear h hq hB
       go_wp2_with (go_at_call 72; with_reducible refine hri.mono ?_; rintro e w' ⟨rfl, hw⟩; obtain rfl := hw; clear hri)
       go_ret
       exact ⟨rfl, HB9.out⟩
end
end Go.Proofs.YtmakjfeepmiggaaGreat

/-
  The document's rule of growing; what both worlds tell.
-/
namespace Go.Proofs.YtmakjfeepmiggaaGreat
open Go.RowKit Go.Maps
set_option linter.unusedVariables false

theorem tsize_pw (b : Int) (h : 1 ≤ b ∧ b ≤ 12) : 2 ≤ tsize b ∧ tsize b ≤ 4096 := by
  have : b = 1 ∨ b = 2 ∨ b = 3 ∨ b = 4 ∨ b = 5 ∨ b = 6 ∨ b = 7 ∨ b = 8 ∨ b = 9 ∨ b = 10 ∨ b = 11 ∨ b = 12 := by omega
  rcases this with rfl | rfl | rfl | rfl | rfl | rfl | rfl | rfl | rfl | rfl | rfl | rfl <;> decide
theorem pmay_out (f g b : Int) (h : f < 1 ∨ 12 < f ∨ b < 1 ∨ 11 < b) : pmay f g b = false := by
  have : tsize f = 0 ∨ tsize b = 0 ∨ tsize (b + 1) = 0 := by
    rcases h with h | h | h | h
    · exact .inl (tsize_out (.inl h))
    · exact .inl (tsize_out (.inr h))
    · exact .inr (.inl (tsize_out (.inl h)))
    · exact .inr (.inr (tsize_out (.inr (by omega))))
  unfold pmay
  rcases this with h | h | h <;> simp [h]
end Go.Proofs.YtmakjfeepmiggaaGreat

/-
  A list of a world's acts that came in.
-/
namespace Go.Proofs.YtmakjfeepmiggaaGreat
open Go.RowKit Go.Maps
set_option linter.unusedVariables false

structure WAc where
  k : Int
  n : Int
  r : Int
  b : Int
  u : Int
  s : Int
  v : Int
  a : Int
  w : Int
  it : Itm
def WAc.cells (x : WAc) : List Value := [.int .u8 x.k, .int .u8 x.n, .int .i64 x.r, .int .i64 x.b, .int .i64 x.u, .int .i64 x.s, .int .i64 x.v, .int .u64 x.a, .int .u64 x.w, .string x.it.key, .string x.it.val, .int .u32 x.it.flags, .int .u64 x.it.id, .int .i64 x.it.dies, .int .i64 x.it.gen]
structure WAc.wf (x : WAc) : Prop where
  k : (Lit.int .u8 x.k).wf = true
  n : (Lit.int .u8 x.n).wf = true
  r : (Lit.int .i64 x.r).wf = true
  b : (Lit.int .i64 x.b).wf = true
  u : (Lit.int .i64 x.u).wf = true
  s : (Lit.int .i64 x.s).wf = true
  v : (Lit.int .i64 x.v).wf = true
  a : (Lit.int .u64 x.a).wf = true
  w : (Lit.int .u64 x.w).wf = true
def wacLeaves : List Leaf := [.int .u8, .int .u8, .int .i64, .int .i64, .int .i64, .int .i64, .int .i64, .int .u64, .int .u64, .str, .str, .int .u32, .int .u64, .int .i64, .int .i64]
theorem wac_of {w : World} {cs : List Value} (h : Leaf.allHold w wacLeaves cs) : ∃ x : WAc, cs = x.cells ∧ x.wf := by
  obtain ⟨c0, r, rfl, g0, h⟩ := allHold_cons h
  obtain ⟨c1, r, rfl, g1, h⟩ := allHold_cons h
  obtain ⟨c2, r, rfl, g2, h⟩ := allHold_cons h
  obtain ⟨c3, r, rfl, g3, h⟩ := allHold_cons h
  obtain ⟨c4, r, rfl, g4, h⟩ := allHold_cons h
  obtain ⟨c5, r, rfl, g5, h⟩ := allHold_cons h
  obtain ⟨c6, r, rfl, g6, h⟩ := allHold_cons h
  obtain ⟨c7, r, rfl, g7, h⟩ := allHold_cons h
  obtain ⟨c8, r, rfl, g8, h⟩ := allHold_cons h
  obtain ⟨c9, r, rfl, g9, h⟩ := allHold_cons h
  obtain ⟨c10, r, rfl, g10, h⟩ := allHold_cons h
  obtain ⟨c11, r, rfl, g11, h⟩ := allHold_cons h
  obtain ⟨c12, r, rfl, g12, h⟩ := allHold_cons h
  obtain ⟨c13, r, rfl, g13, h⟩ := allHold_cons h
  obtain ⟨c14, r, rfl, g14, h⟩ := allHold_cons h
  obtain rfl := allHold_nil h
  obtain ⟨n0, rfl, w0⟩ := holds_int g0
  obtain ⟨n1, rfl, w1⟩ := holds_int g1
  obtain ⟨n2, rfl, w2⟩ := holds_int g2
  obtain ⟨n3, rfl, w3⟩ := holds_int g3
  obtain ⟨n4, rfl, w4⟩ := holds_int g4
  obtain ⟨n5, rfl, w5⟩ := holds_int g5
  obtain ⟨n6, rfl, w6⟩ := holds_int g6
  obtain ⟨n7, rfl, w7⟩ := holds_int g7
  obtain ⟨n8, rfl, w8⟩ := holds_int g8
  obtain ⟨n9, rfl, w9⟩ := holds_str g9
  obtain ⟨n10, rfl, w10⟩ := holds_str g10
  obtain ⟨n11, rfl, w11⟩ := holds_int g11
  obtain ⟨n12, rfl, w12⟩ := holds_int g12
  obtain ⟨n13, rfl, w13⟩ := holds_int g13
  obtain ⟨n14, rfl, w14⟩ := holds_int g14
  exact ⟨⟨n0, n1, n2, n3, n4, n5, n6, n7, n8, ⟨n9, n10, n11, n12, n13, n14⟩⟩, rfl, w0, w1, w2, w3, w4, w5, w6, w7, w8⟩
/-- Accesses that may be read. -/
structure WActs (w : World) (a : Option Addr) (cap : Nat) (l : List WAc) : Prop where
  le : l.length ≤ cap
  most : cap ≤ maxLen
  nil : a = none → cap = 0
  wf : ∀ x ∈ l, x.wf
  cell : l = [] ∨ ∃ b off, a = some ⟨b, off, none⟩ ∧ ∀ i, (hi : i < l.length) → ∀ j, j < 15 → w.cell? ⟨b, off + (i * 15 + j), none⟩ = (l[i]).cells[j]?
theorem wacts_of {w : World} {a : Option Addr} {n cap : Nat} (h : Leaf.holds w (.sl wacLeaves) (.slice a n cap)) : ∃ l, l.length = n ∧ WActs w a cap l := by
  obtain ⟨l, a', cap', hv, h1, h2, h3, h4, h5⟩ := recs_of h
  simp only [Value.slice.injEq] at hv
  obtain ⟨rfl, rfl, rfl⟩ := hv
  obtain ⟨m, hm, hp⟩ := list_of (fun i (x : WAc) => l[i]? = some x.cells ∧ x.wf) l.length (fun i hi => by
    obtain ⟨x, hx, hw⟩ := wac_of (h4 _ (List.getElem_mem hi))
    exact ⟨x, by rw [List.getElem?_eq_getElem hi, hx], hw⟩)
  refine ⟨m, hm, by omega, h2, h3, fun x hx => ?_, ?_⟩
  · obtain ⟨i, hi, rfl⟩ := List.mem_iff_getElem.1 hx
    exact (hp i hi).2
  · rcases h5 with rfl | ⟨b, off, rfl, h5⟩
    · left; simpa using hm
    · refine .inr ⟨b, off, rfl, fun i hi j hj => ?_⟩
      have h6 := h5 i (by omega) j hj
      have h7 := (hp i hi).1
      rw [List.getElem?_eq_getElem (by omega)] at h7
      simp only [Option.some.injEq] at h7
      rw [h7] at h6
      exact h6
theorem WActs.at {w : World} {a : Option Addr} {cap : Nat} {l : List WAc} (h : WActs w a cap l) (i : Nat) (hi : i < l.length) :
    ∃ b off x, a = some ⟨b, off, none⟩ ∧ l[i]? = some x ∧ x.wf ∧ w.cell? ⟨b, off + i * 15, none⟩ = some (.int .u8 x.k) ∧ w.cell? ⟨b, off + i * 15 + 1, none⟩ = some (.int .u8 x.n) ∧ w.cell? ⟨b, off + i * 15 + 2, none⟩ = some (.int .i64 x.r) ∧ w.cell? ⟨b, off + i * 15 + 3, none⟩ = some (.int .i64 x.b) ∧ w.cell? ⟨b, off + i * 15 + 4, none⟩ = some (.int .i64 x.u) ∧ w.cell? ⟨b, off + i * 15 + 5, none⟩ = some (.int .i64 x.s) ∧ w.cell? ⟨b, off + i * 15 + 6, none⟩ = some (.int .i64 x.v) ∧ w.cell? ⟨b, off + i * 15 + 7, none⟩ = some (.int .u64 x.a) ∧ w.cell? ⟨b, off + i * 15 + 8, none⟩ = some (.int .u64 x.w) ∧ w.cell? ⟨b, off + i * 15 + 9, none⟩ = some (.string x.it.key) ∧ w.cell? ⟨b, off + i * 15 + 10, none⟩ = some (.string x.it.val) ∧ w.cell? ⟨b, off + i * 15 + 11, none⟩ = some (.int .u32 x.it.flags) ∧ w.cell? ⟨b, off + i * 15 + 12, none⟩ = some (.int .u64 x.it.id) ∧ w.cell? ⟨b, off + i * 15 + 13, none⟩ = some (.int .i64 x.it.dies) ∧ w.cell? ⟨b, off + i * 15 + 14, none⟩ = some (.int .i64 x.it.gen) := by
  rcases h.cell with rfl | ⟨b, off, rfl, h5⟩
  · simp at hi
  · have h6 := h5 i hi
    refine ⟨b, off, l[i], rfl, List.getElem?_eq_getElem hi, h.wf _ (List.getElem_mem hi), h6 0 (by omega), ?_, ?_, ?_, ?_, ?_, ?_, ?_, ?_, ?_, ?_, ?_, ?_, ?_, ?_⟩
    · rw [Nat.add_assoc]; exact h6 1 (by omega)
    · rw [Nat.add_assoc]; exact h6 2 (by omega)
    · rw [Nat.add_assoc]; exact h6 3 (by omega)
    · rw [Nat.add_assoc]; exact h6 4 (by omega)
    · rw [Nat.add_assoc]; exact h6 5 (by omega)
    · rw [Nat.add_assoc]; exact h6 6 (by omega)
    · rw [Nat.add_assoc]; exact h6 7 (by omega)
    · rw [Nat.add_assoc]; exact h6 8 (by omega)
    · rw [Nat.add_assoc]; exact h6 9 (by omega)
    · rw [Nat.add_assoc]; exact h6 10 (by omega)
    · rw [Nat.add_assoc]; exact h6 11 (by omega)
    · rw [Nat.add_assoc]; exact h6 12 (by omega)
    · rw [Nat.add_assoc]; exact h6 13 (by omega)
    · rw [Nat.add_assoc]; exact h6 14 (by omega)

theorem WActs.below {w w' : World} {a : Option Addr} {cap : Nat} {l : List WAc} (h : WActs w a cap l) (hb : Below w.heap.size w w') : WActs w' a cap l := by
  refine ⟨h.le, h.most, h.nil, h.wf, h.cell.imp id fun ⟨b, off, e, h5⟩ => ⟨b, off, e, fun i hi j hj => ?_⟩⟩
  have h6 := h5 i hi j hj
  obtain ⟨v, hv⟩ : ∃ v, (l[i]).cells[j]? = some v := by
    match j, hj with
    | 0, _ | 1, _ | 2, _ | 3, _ | 4, _ | 5, _ | 6, _ | 7, _ | 8, _ | 9, _ | 10, _ | 11, _ | 12, _ | 13, _ | 14, _ => exact ⟨_, rfl⟩
  rw [hv] at h6 ⊢
  exact (hb.cell (World.block_lt_of_cell? _ _ h6)).trans h6
end Go.Proofs.YtmakjfeepmiggaaGreat

/-
  Begin of a pair, whatever stands ahead of all (written by genbegin2.py).
-/
namespace Go.Proofs.YtmakjfeepmiggaaGreat
open Go.RowKit
set_option linter.unusedVariables false

structure BxA (f : Fst) (w W : World) : Prop where
  hF : W.heap[w.heap.size]? = some (.cells f.cells 28 (0, 0))
  h2 : W.heap[w.heap.size + 1]? = some (.cells #[.pointer none, .pointer none] 34 (0, 0))
  h3 : W.heap[w.heap.size + 2]? = some (.cells #[.int .i64 f.conf.bits, .int .i64 f.conf.budget, .int .i64 f.conf.tries, .int .i64 f.conf.quantum, .int .i64 f.conf.way] 23 (0, 0))
  hB : Below w.heap.size w W

set_option maxRecDepth 100000 in
set_option maxHeartbeats 8000000 in
theorem begin_any (f : Fst) (w : World) (hin : FstIn w f) : Calls Tryz.prog 9 #[.agg #[.int .i64 f.c.bits, .int .i64 f.c.budget, .int .i64 f.c.tries, .int .i64 f.c.quantum, .int .i64 f.c.way, .bool f.gr, .slice f.ia f.its.length f.ic, .slice f.pa f.puts.length f.pc, .slice f.sa f.sts.length f.sc, .int .i64 f.ticks]] w (BeginPost f w) := by
  have hcok : f.conf.ok = true := by
    unfold Fst.conf; split
    · assumption
    · decide
  have hct : f.c.ok = true → f.conf = f.c := fun h => by unfold Fst.conf; rw [h]; rfl
  have hcn : f.c.ok = false → f.conf = conf10 := fun h => by unfold Fst.conf; rw [h]; rfl
  obtain ⟨hwb, hb1, hb12⟩ := tword_bits hcok
  have HIN := Lib.hid hin; have HOK := Lib.hid hcok; have HTW := Lib.hid hwb; have HCT := Lib.hid hct; have HCN := Lib.hid hcn
  clear hin hcok hwb hct hcn
  go_enter Tryz.func9, Tryz.ntmps9
  go_upto_region 2 with (fail)
  have hF : (((w.alloc (.cells f.cells 28)).alloc (.cells #[.pointer none, .pointer none] 34)).alloc (.cells #[.int .i64 f.c.bits, .int .i64 f.c.budget, .int .i64 f.c.tries, .int .i64 f.c.quantum, .int .i64 f.c.way] 23)).heap[w.heap.size]? = some (.cells f.cells 28 (0, 0)) := heap_alloc_old (heap_alloc_old (heap_alloc_new w _))
  have h2 : (((w.alloc (.cells f.cells 28)).alloc (.cells #[.pointer none, .pointer none] 34)).alloc (.cells #[.int .i64 f.c.bits, .int .i64 f.c.budget, .int .i64 f.c.tries, .int .i64 f.c.quantum, .int .i64 f.c.way] 23)).heap[w.heap.size + 1]? = some (.cells #[.pointer none, .pointer none] 34 (0, 0)) := heap_alloc_old (heap_alloc_at _ _ (by simp))
  have h3 : (((w.alloc (.cells f.cells 28)).alloc (.cells #[.pointer none, .pointer none] 34)).alloc (.cells #[.int .i64 f.c.bits, .int .i64 f.c.budget, .int .i64 f.c.tries, .int .i64 f.c.quantum, .int .i64 f.c.way] 23)).heap[w.heap.size + 1 + 1]? = some (.cells #[.int .i64 f.c.bits, .int .i64 f.c.budget, .int .i64 f.c.tries, .int .i64 f.c.quantum, .int .i64 f.c.way] 23 (0, 0)) := heap_alloc_at _ _ (by simp)
  have hB3 : Below w.heap.size w (((w.alloc (.cells f.cells 28)).alloc (.cells #[.pointer none, .pointer none] 34)).alloc (.cells #[.int .i64 f.c.bits, .int .i64 f.c.budget, .int .i64 f.c.tries, .int .i64 f.c.quantum, .int .i64 f.c.way] 23)) := (((Below.refl _ w).alloc (Nat.le_refl _) _).alloc (by simp) _).alloc (by simp; omega) _
  change Code.wp _ _ _ _ (((w.alloc (.cells f.cells 28)).alloc (.cells #[.pointer none, .pointer none] 34)).alloc (.cells #[.int .i64 f.c.bits, .int .i64 f.c.budget, .int .i64 f.c.tries, .int .i64 f.c.quantum, .int .i64 f.c.way] 23))
  generalize ((w.alloc (.cells f.cells 28)).alloc (.cells #[.pointer none, .pointer none] 34)).alloc (.cells #[.int .i64 f.c.bits, .int .i64 f.c.budget, .int .i64 f.c.tries, .int .i64 f.c.quantum, .int .i64 f.c.way] 23) = W3 at *
  have d0 := hcell h3 0; have d1 := hcell h3 1; have d2 := hcell h3 2; have d3 := hcell h3 3; have d4 := hcell h3 4
  have HF := Lib.hid hF; have H2 := Lib.hid h2; have H3 := Lib.hid h3; have HB3 := Lib.hid hB3
  clear hF h2 h3 hB3
  go_upto_if 14 with (first
    | (go_at_call 45; refine (rother_any f.c _).mono ?_; rintro e w4 ⟨rfl, b4⟩; have HB4 := Lib.hid b4; clear b4)
    | (go_at_call 44; refine (rmay_any f.c _).mono ?_; rintro e W4 ⟨rfl, b5⟩; have HB5 : Hid (Below W3.heap.size W3 W4) := HB4.out.trans (b5.mono HB4.out.size); clear b5 d0 d1 d2 d3 d4))
  go_cut [] (fun wx => BxA f w wx)
  case first =>
    have h34 := (HB5.out.block _ (Array.getElem?_eq_some_iff.1 H3.out).1).trans H3.out
    have hF0 := (HB5.out.block _ (Array.getElem?_eq_some_iff.1 HF.out).1).trans HF.out
    have h20 := (HB5.out.block _ (Array.getElem?_eq_some_iff.1 H2.out).1).trans H2.out
    have hB4 : Below w.heap.size w W4 := HB3.out.trans (HB5.out.mono HB3.out.size)
    cases hok : f.c.ok
    · have h3 := setCell_same (setCell_same (setCell_same (setCell_same (setCell_same h34 0 (.int .i64 2)) 1 (.int .i64 8)) 2 (.int .i64 3)) 3 (.int .i64 1)) 4 (.int .i64 16)
      have hk5 : Keeps (· = w.heap.size + 1 + 1) W4 (((((W4.setCell ⟨w.heap.size + 1 + 1, 0, none⟩ (.int .i64 2)).setCell ⟨w.heap.size + 1 + 1, 1, none⟩ (.int .i64 8)).setCell ⟨w.heap.size + 1 + 1, 2, none⟩ (.int .i64 3)).setCell ⟨w.heap.size + 1 + 1, 3, none⟩ (.int .i64 1)).setCell ⟨w.heap.size + 1 + 1, 4, none⟩ (.int .i64 16)) := ((((setCell_keeps _ _ _ _).again (setCell_keeps _ _ _ _)).again (setCell_keeps _ _ _ _)).again (setCell_keeps _ _ _ _)).again (setCell_keeps _ _ _ _)
      have HREL : Hid (BxA f w (((((W4.setCell ⟨w.heap.size + 1 + 1, 0, none⟩ (.int .i64 2)).setCell ⟨w.heap.size + 1 + 1, 1, none⟩ (.int .i64 8)).setCell ⟨w.heap.size + 1 + 1, 2, none⟩ (.int .i64 3)).setCell ⟨w.heap.size + 1 + 1, 3, none⟩ (.int .i64 1)).setCell ⟨w.heap.size + 1 + 1, 4, none⟩ (.int .i64 16))) := by
        refine ⟨(hk5.block _ (Array.getElem?_eq_some_iff.1 hF0).1 (by omega)).trans hF0, (hk5.block _ (Array.getElem?_eq_some_iff.1 h20).1 (by omega)).trans h20, ?_, keeps_below hk5 hB4 hB4.size fun k e => by omega⟩
        rw [HCN.out hok]
        exact h3
      have d0 := hcell h34 0; have d1 := hcell h34 1; have d2 := hcell h34 2; have d3 := hcell h34 3; have d4 := hcell h34 4; have df := hfrz h34
      clear h34 hF0 h20 hB4 h3 hk5
      go_wp2_with fail
      go_meet
      case rel => exact HREL.out
    · have HREL : Hid (BxA f w W4) := ⟨hF0, h20, by rw [HCT.out hok]; exact h34, hB4⟩
      clear h34 hF0 h20 hB4
      go_wp2_with fail
      go_meet
      case rel => exact HREL.out
  case rest =>
  clear HF H2 H3 HB3 HB4 HB5 HCT HCN
  obtain ⟨hF, h2, h3, hB5⟩ := hcut
  have HBX0 : Hid (BxF f f.conf w.heap.size wc.heap.size (.pointer none) (.pointer none) (wc.alloc (.cells #[.pointer none, .pointer none] 34))) := ⟨heap_alloc_old hF, heap_alloc_old h2, heap_alloc_old h3, heap_alloc_new wc _⟩
  have HB6 : Hid (Below w.heap.size w (wc.alloc (.cells #[.pointer none, .pointer none] 34))) := hB5.alloc hB5.size _
  have hq4 : w.heap.size + 1 < wc.heap.size := (Array.getElem?_eq_some_iff.1 h2).1
  have HSZ := Lib.hid hB5.size
  clear hF h2 h3 hB5
  go_upto_region 5 with (fail)
  generalize wc.alloc (.cells #[.pointer none, .pointer none] 34) = W6 at *
  obtain ⟨q4, hq4e⟩ : ∃ q4, q4 = wc.heap.size := ⟨_, rfl⟩
  rw [← hq4e] at HBX0 hq4 HSZ
  simp only [← hq4e]
  clear hq4e
  have hb := HBX0.out
  have d0 := hcell hb.h3 0; have d1 := hcell hb.h3 1; have d2 := hcell hb.h3 2; have d3 := hcell hb.h3 3; have d4 := hcell hb.h3 4
  clear hb
  generalize hfc : f.conf = fc at *
  go_upto_region 6 with (first
    | (go_at_call 45; refine (rother_any fc _).mono ?_; rintro e w7 ⟨rfl, b7⟩; have HB7 := Lib.hid b7; clear b7 d0 d1 d2 d3 d4)
    | (go_at_call 46; refine (rnew10_any fc HOK.out w7).mono ?_; rintro e w8 ⟨rb, cr, rib, rnb, rfl, hR, bR⟩; have hbx8 := (HBX0.out.below HB7.out).below bR; have e0 := hcell hbx8.h4 1; have ef := hfrz hbx8.h4 1; have HR8 := Lib.hid (rd_of hR (HB6.out.trans (HB7.out.mono HB6.out.size)) bR); have HBX8 := Lib.hid hbx8; have HB8 : Hid (Below w.heap.size w w8) := (HB6.out.trans (HB7.out.mono HB6.out.size)).trans (bR.mono (Nat.le_trans HB6.out.size HB7.out.size)); clear hbx8 hR bR))
  have hf9 := setPair_fr HBX8.out.h4 1 (.pointer (some ⟨rb, 0, none⟩))
  have hB9 := below_set (o := 1) (v := .pointer (some ⟨rb, 0, none⟩)) HB8.out (HSZ.out)
  have hbx9 := HBX8.out.set (by omega) 1 (.pointer (some ⟨rb, 0, none⟩)) (.pointer none) (.pointer (some ⟨rb, 0, none⟩)) rfl
  have HR9 := Lib.hid (HR8.out.fr hf9 pairTy_r hB9)
  have HBX9 := Lib.hid hbx9; have HB9 := Lib.hid hB9
  clear hf9 hB9 hbx9 e0 ef HR8 HBX8 HB8
  generalize w8.setCell ⟨q4, 1, none⟩ (.pointer (some ⟨rb, 0, none⟩)) = W9 at *
  have hb := HBX9.out
  have d0 := hcell hb.h3 0; have d1 := hcell hb.h3 1; have d2 := hcell hb.h3 2; have d3 := hcell hb.h3 3; have d4 := hcell hb.h3 4
  clear hb
  go_upto_region 7 with (go_at_call 47; refine (wnew_ok fc HOK.out W9).mono ?_; rintro e w10 ⟨wb, cb, ib, nb, rfl, g1, g2, g3, g4, g5, g6, g7⟩; have hbx10 := HBX9.out.below g3.below; have e0 := hcell hbx10.h4 0; have ef := hfrz hbx10.h4 0; have HW10 := Lib.hid (ws_of HB9.out g1 g2 g3 g4 g5 g6 g7); have HR10 := Lib.hid (HR9.out.keep g3.below); have HBX10 := Lib.hid hbx10; clear hbx10 g1 g2 g3 g4 g5 g6 g7 d0 d1 d2 d3 d4)
  have hf11 := setPair_fr HBX10.out.h4 0 (.pointer (some ⟨wb, 0, none⟩))
  have hB11 := below_set (o := 0) (v := .pointer (some ⟨wb, 0, none⟩)) HW10.out.below (HSZ.out)
  have hbx11 := HBX10.out.set (by omega) 0 (.pointer (some ⟨wb, 0, none⟩)) (.pointer (some ⟨wb, 0, none⟩)) (.pointer (some ⟨rb, 0, none⟩)) rfl
  have htw : tword fc.bits 0 = fc.bits := HTW.out
  have hws := HW10.out.fr hf11 pairTy_w hB11
  rw [htw] at hws
  have hpr : Pr w (w10.setCell ⟨q4, 0, none⟩ (.pointer (some ⟨wb, 0, none⟩))) ⟨wb, cb, ib, nb⟩ ⟨rb, cr, rib, rnb⟩ (v0 fc) (CS.init [(2, fc.bits)]) ⟨rfold [(2, fc.bits)], 0, 0, 0, 0, 0⟩ := ⟨hws, HR10.out.fr hf11 pairTy_r hB11, init_one _ (by omega)⟩
  have hfar := init_far1 fc.bits
  have HPR := Lib.hid hpr; have HFAR := Lib.hid hfar; have HBX := Lib.hid hbx11
  clear hf11 hB11 hbx11 htw hws hpr hfar e0 ef HW10 HR10 HBX10 HBX9 HB9 HR9 HB7 HBX0 HB6
  generalize w10.setCell ⟨q4, 0, none⟩ (.pointer (some ⟨wb, 0, none⟩)) = W11 at *
  generalize hs1 : CS.init [(2, fc.bits)] = s1 at *
  generalize (⟨rfold [(2, fc.bits)], 0, 0, 0, 0, 0⟩ : RS) = x1 at *
  obtain ⟨B, hBe⟩ : ∃ B : WB, B = ⟨wb, cb, ib, nb⟩ := ⟨_, rfl⟩
  obtain ⟨R, hRe⟩ : ∃ R : WB, R = ⟨rb, cr, rib, rnb⟩ := ⟨_, rfl⟩
  rw [← hBe, ← hRe] at HPR
  have ewb : wb = B.wb := by rw [hBe]
  have erb : rb = R.wb := by rw [hRe]
  subst ewb erb
  clear hBe hRe
  have HS1 := Lib.hid hs1; have HFC := Lib.hid hfc
  clear hs1 hfc
  have c40 := hcell HBX.out.h4 0
  have cF5 : W11.cell? ⟨w.heap.size, 5, none⟩ = some (.bool f.gr) := hcell HBX.out.hF 5
  have c30 := hcell HBX.out.h3 0
  go_upto_region 9 with (fail)
  go_cut [0, 42] (fun _ s42 wx => s42 = .bool (f.gr && decide (fc.bits < 12)) ∧ wx = W11)
  case first =>
    cases hg : f.gr
    · rw [hg] at cF5
      go_wp2_with fail
      go_meet
      case rel => exact ⟨by rw [hg]; rfl, rfl⟩
    · rw [hg] at cF5
      go_wp2_with fail
      go_meet
      case rel => exact ⟨by rw [hg]; simp, rfl⟩
  case rest =>
  obtain ⟨rfl, hwc⟩ := hcut
  subst hwc
  clear cF5 c30 c40
  have htk0 : ({ v0 fc with its := List.take 0 f.its } : WV) = v0 fc := rfl
  go_upto_if 42 with (fail)
  go_cut [] (fun wx => ∃ s2 x2, Pr w wx B R (v0 fc) s2 x2 ∧ BxF f fc w.heap.size q4 (.pointer (some ⟨B.wb, 0, none⟩)) (.pointer (some ⟨R.wb, 0, none⟩)) wx ∧ Far s2 x2 2 ∧ (f.gr = false → s2 = s1))
  case first =>
    cases hgb : (f.gr && decide (fc.bits < 12))
    · have HREL : Hid (∃ s2 x2, Pr w wc B R (v0 fc) s2 x2 ∧ BxF f fc w.heap.size q4 (.pointer (some ⟨B.wb, 0, none⟩)) (.pointer (some ⟨R.wb, 0, none⟩)) wc ∧ Far s2 x2 2 ∧ (f.gr = false → s2 = s1)) := ⟨s1, x1, HPR.out, HBX.out, ⟨by have := HFAR.out.1; omega, by have := HFAR.out.2.1; omega, by have := HFAR.out.2.2; omega⟩, fun _ => rfl⟩
      go_wp2_with fail
      go_meet
      case rel => exact HREL.out
    · have hgr := hgb
      simp only [Bool.and_eq_true, decide_eq_true_eq] at hgr
      obtain ⟨hg1, hg2⟩ := hgr
      have e1 : IntKind.u64.wrap (fc.bits + 256 * (fc.bits + 1)) = fc.bits + 256 * (fc.bits + 1) := by rw [IntKind.wrap_u64]; omega
      have hps := pstore_any HPR.out 1 HFAR.out (by decide) 2 (fc.bits + 256 * (fc.bits + 1)) (by decide) (u64_small _ (by omega))
      have HF2 := Lib.hid (HFAR.out.acc HPR.out.al 2 2 (fc.bits + 256 * (fc.bits + 1)))
      have c40 := hcell HBX.out.h4 0
      have c41 := hcell HBX.out.h4 1
      have c30 := hcell HBX.out.h3 0
      have HG1 := Lib.hid hg1
      clear hg1
      go_wp2_with (go_at_call 13; refine hps.mono ?_; rintro e W12 ⟨rfl, h12, f12⟩; have HPR2 := Lib.hid h12; have HBX2 := Lib.hid (HBX.out.fr f12 rfl rfl rfl); clear h12 f12 hps c40 c30 c41)
      go_meet
      case rel => exact ⟨_, _, HPR2.out, HBX2.out, HF2.out, fun h => by have := HG1.out; rw [h] at this; cases this⟩
  case rest =>
  clear HPR HBX HFAR htk0
  obtain ⟨s2, x2, hpr, hbx, hfar2, hs2⟩ := hcut
  have HPR2 := Lib.hid hpr; have HBX2 := Lib.hid hbx; have HFAR2 := Lib.hid hfar2; have HS2 := Lib.hid hs2
  clear hpr hbx hfar2 hs2
  go_upto_block 0 with (fail)
  go_cut [] (fun wx => Pr w wx B R { v0 fc with its := f.its } s2 x2 ∧ BxF f fc w.heap.size q4 (.pointer (some ⟨B.wb, 0, none⟩)) (.pointer (some ⟨R.wb, 0, none⟩)) wx)
  case first =>
    have cF2 := hcell HBX2.out.hF 6
    go_wp2_with fail
    clear cF2
    -- the records
    go_loopw [5] (fun i wr => ∃ k : Nat, k ≤ f.its.length ∧ i = .int .i64 k ∧ Pr w wr B R { v0 fc with its := f.its.take k } s2 x2 ∧ BxF f fc w.heap.size q4 (.pointer (some ⟨B.wb, 0, none⟩)) (.pointer (some ⟨R.wb, 0, none⟩)) wr) (fun i _ => f.its.length - (intOf i).toNat)
    case atStart => exact ⟨0, by omega, rfl, HPR2.out, HBX2.out⟩
    case round =>
      clear HPR2 HBX2
      obtain ⟨k, hk, rfl, hpr, hbx⟩ := hrel
      have hbw := hpr.ws.below
      have hni := HIN.out.ni
      by_cases hlt : k < f.its.length
      · obtain ⟨b, off, y, hia, hy, q0, q1, q2, q3, q4', q5⟩ := Itms.cell HIN.out.its k hlt
        have hg : b < w.heap.size := World.block_lt_of_cell? _ _ q0
        have q0 := (hbw.cell (p := ⟨b, _, none⟩) hg).trans q0
        have q1 := (hbw.cell (p := ⟨b, _, none⟩) hg).trans q1
        have q2 := (hbw.cell (p := ⟨b, _, none⟩) hg).trans q2
        have q3 := (hbw.cell (p := ⟨b, _, none⟩) hg).trans q3
        have q4' := (hbw.cell (p := ⟨b, _, none⟩) hg).trans q4'
        have q5 := (hbw.cell (p := ⟨b, _, none⟩) hg).trans q5
        have c6 : wr.cell? ⟨w.heap.size, 6, none⟩ = some (.slice f.ia f.its.length f.ic) := hcell hbx.hF 6
        rw [hia] at c6
        have x0 := fun st : ExtW wr => st.cell (hcell hbx.h4 0)
        have x1 := fun st : ExtW wr => st.cell (hcell hbx.h4 1)
        have x2' := fun st : ExtW wr => st.cell c6
        have z0 := fun st : ExtW wr => st.cell q0
        have z1 := fun st : ExtW wr => st.cell q1
        have z2 := fun st : ExtW wr => st.cell q2
        have z3 := fun st : ExtW wr => st.cell q3
        have z4 := fun st : ExtW wr => st.cell q4'
        have z5 := fun st : ExtW wr => st.cell q5
        have hst : ∀ W, Below wr.heap.size wr W → Calls Tryz.prog 28 #[.agg #[.pointer (some ⟨B.wb, 0, none⟩), .pointer (some ⟨R.wb, 0, none⟩)], .agg #[.string (y).key, .string (y).val, .int .u32 (y).flags, .int .u64 (y).id, .int .i64 (y).dies, .int .i64 (y).gen]] W fun e w' => e = .returned (.tuple #[]) ∧ Pr w w' B R { v0 fc with its := f.its.take k ++ [y] } s2 x2 ∧ Fr wrTy true W w' := fun W hW => pitem_any (hpr.keep hW) y (by simp; omega)
        have hty : f.its.take (k + 1) = f.its.take k ++ [y] := by rw [List.take_add_one, hy]; rfl
        have hlt' : (k : Int) < f.its.length := by omega
        have HST := Lib.hid hst; have HBX := Lib.hid hbx; have HTY := Lib.hid hty
        clear hpr hbx hbw q0 q1 q2 q3 q4' q5 hst hty hy hia hg
        go_wp2
        refine wp_region_segs [6] (by kernel_rfl) (by kernel_rfl) (by kernel_rfl) ?_
        simp only [Segs, List.take_succ_cons, List.take_zero, List.drop_succ_cons, List.drop_zero]
        repeat (go_big_quiet_step (fail))
        refine wpQuiet_nil ?_
        rintro W ⟨⟨W2, hW⟩, rfl⟩
        clear x0 x1 x2' z0 z1 z2 z3 z4 z5 c6
        refine seg_call rfl (by kernel_rfl) 28 #[.agg #[.pointer (some ⟨B.wb, 0, none⟩), .pointer (some ⟨R.wb, 0, none⟩)], .agg #[.string (y).key, .string (y).val, .int .u32 (y).flags, .int .u64 (y).id, .int .i64 (y).dies, .int .i64 (y).gen]] (by kernel_rfl) ?_
        refine (HST.out _ hW).mono ?_
        rintro e w12 ⟨rfl, h12, f12⟩
        refine ⟨_, rfl, ?_⟩
        refine wpQuiet_nil ?_
        rintro W3' ⟨⟨W4', hW3⟩, rfl⟩
        have HN := Lib.hid (And.intro (h12.keep hW3) (((HBX.out.below hW).fr f12 rfl rfl rfl).below hW3))
        clear hW h12 f12 hW3
        go_wp2
        go_roundw
        case rel => exact ⟨k + 1, by omega, by go_num, by rw [HTY.out]; exact HN.out.1, HN.out.2⟩
        case measure => simp [intOf]; omega
      · obtain rfl : k = f.its.length := by omega
        rw [List.take_length] at hpr
        have HREL := Lib.hid (And.intro hpr hbx)
        have c6 : wr.cell? ⟨w.heap.size, 6, none⟩ = some (.slice f.ia f.its.length f.ic) := hcell hbx.hF 6
        clear hpr hbx hbw hlt hk
        go_wp2_with fail
        go_meet
        case rel => exact HREL.out
  case rest =>
      obtain ⟨hpr, hbx⟩ := hcut
      have HPR3 := Lib.hid hpr; have HBX3 := Lib.hid hbx
      clear HPR2 HBX2
      have c6 : wc.cell? ⟨w.heap.size, 6, none⟩ = some (.slice f.ia f.its.length f.ic) := hcell hbx.hF 6
      clear hpr hbx
      go_upto_block 2 with (fail)
      go_cut [] (fun wx => ∃ s3 x3, Pr w wx B R { v0 fc with its := f.its } s3 x3 ∧ BxF f fc w.heap.size q4 (.pointer (some ⟨B.wb, 0, none⟩)) (.pointer (some ⟨R.wb, 0, none⟩)) wx ∧ Far s3 x3 122 ∧ (f.puts = [] → s3 = s2))
      case first =>
        go_wp2_with fail
        -- the puts
        go_loopw [6] (fun i wr => ∃ (k : Nat) (s : CS) (x : RS), k ≤ f.puts.length ∧ i = .int .i64 k ∧ Pr w wr B R { v0 fc with its := f.its } s x ∧ BxF f fc w.heap.size q4 (.pointer (some ⟨B.wb, 0, none⟩)) (.pointer (some ⟨R.wb, 0, none⟩)) wr ∧ Far s x (2 + 2 * k) ∧ (k = 0 → s = s2)) (fun i _ => f.puts.length - (intOf i).toNat)
        case atStart => exact ⟨0, _, _, by omega, rfl, HPR3.out, HBX3.out, HFAR2.out, fun _ => rfl⟩
        case round =>
          clear HPR3 HBX3
          obtain ⟨k, s, x, hk, rfl, hpr, hbx, hfar, hks⟩ := hrel
          have hbw := hpr.ws.below
          have hnp := HIN.out.np
          have c6 : wr.cell? ⟨w.heap.size, 6, none⟩ = some (.slice f.ia f.its.length f.ic) := hcell hbx.hF 6
          have c7 : wr.cell? ⟨w.heap.size, 7, none⟩ = some (.slice f.pa f.puts.length f.pc) := hcell hbx.hF 7
          by_cases hlt : k < f.puts.length ∧ 0 < f.its.length
          · obtain ⟨hlt, hi0⟩ := hlt
            obtain ⟨b, off, px, py, pz, hpa, hbd, q0, q1, q2⟩ := HIN.out.puts.at k hlt
            have hg : b < w.heap.size := World.block_lt_of_cell? _ _ q0
            have q0 := (hbw.cell (p := ⟨b, _, none⟩) hg).trans q0
            have q1 := (hbw.cell (p := ⟨b, _, none⟩) hg).trans q1
            have q2 := (hbw.cell (p := ⟨b, _, none⟩) hg).trans q2
            rw [hpa] at c7
            have x0 := fun st : ExtW wr => st.cell (hcell hbx.h4 0)
            have x1 := fun st : ExtW wr => st.cell (hcell hbx.h4 1)
            have x2' := fun st : ExtW wr => st.cell c6
            have x3 := fun st : ExtW wr => st.cell c7
            have z0 := fun st : ExtW wr => st.cell q0
            have z1 := fun st : ExtW wr => st.cell q1
            have z2 := fun st : ExtW wr => st.cell q2
            have hst : ∀ W, Below wr.heap.size wr W → Calls Tryz.prog 48 #[.agg #[.pointer (some ⟨B.wb, 0, none⟩), .pointer (some ⟨R.wb, 0, none⟩)], .agg #[.int .u8 px, .int .u8 py, .int .u8 pz], .int .i64 f.its.length] W (PutPost w W B R { v0 fc with its := f.its } (2 + 2 * k)) := fun W hW => pput_any (hpr.keep hW) (2 + 2 * k) hfar (by omega) HIN.out.key (by have := HIN.out.ni; simp only; omega) f.its.length ⟨by omega, by have := HIN.out.ni; omega⟩ px py pz hbd.1 hbd.2.1 hbd.2.2
            have hlt' : (k : Int) < f.puts.length := by omega
            have hi0' : (0 : Int) < f.its.length := by omega
            have HST := Lib.hid hst; have HBX := Lib.hid hbx
            clear hpr hbx hbw q0 q1 q2 hst hpa hg hbd hfar hks
            go_wp2
            refine wp_region_segs [9] (by kernel_rfl) (by kernel_rfl) (by kernel_rfl) ?_
            simp only [Segs, List.take_succ_cons, List.take_zero, List.drop_succ_cons, List.drop_zero]
            repeat (go_big_quiet_step (fail))
            refine wpQuiet_nil ?_
            rintro W ⟨⟨W2, hW⟩, rfl⟩
            clear x0 x1 x2' x3 z0 z1 z2 c6 c7
            refine seg_call rfl (by kernel_rfl) 48 #[.agg #[.pointer (some ⟨B.wb, 0, none⟩), .pointer (some ⟨R.wb, 0, none⟩)], .agg #[.int .u8 px, .int .u8 py, .int .u8 pz], .int .i64 f.its.length] (by kernel_rfl) ?_
            refine (HST.out _ hW).mono ?_
            rintro e w12 ⟨rfl, s', x', h12, hfar', f12⟩
            refine ⟨_, rfl, ?_⟩
            refine wpQuiet_nil ?_
            rintro W3' ⟨⟨W4', hW3⟩, rfl⟩
            have HN := Lib.hid (And.intro (h12.keep hW3) (((HBX.out.below hW).fr f12 rfl rfl rfl).below hW3))
            have HFN : Hid (Far s' x' (2 + 2 * (k + 1))) := hfar'
            clear hW h12 f12 hW3 hfar'
            go_wp2
            go_roundw
            case rel => exact ⟨k + 1, s', x', by omega, by go_num, HN.out.1, HN.out.2, HFN.out, fun h => by omega⟩
            case measure => simp [intOf]; omega
          · have HREL : Hid (∃ s3 x3, Pr w wr B R { v0 fc with its := f.its } s3 x3 ∧ BxF f fc w.heap.size q4 (.pointer (some ⟨B.wb, 0, none⟩)) (.pointer (some ⟨R.wb, 0, none⟩)) wr ∧ Far s3 x3 122 ∧ (f.puts = [] → s3 = s2)) :=
              ⟨s, x, hpr, hbx, ⟨by have := hfar.1; omega, by have := hfar.2.1; omega, by have := hfar.2.2; omega⟩, fun h => hks (by rw [h] at hk; simpa using hk)⟩
            have hor : ¬ k < f.puts.length ∨ (k < f.puts.length ∧ ¬ 0 < f.its.length) := by omega
            clear hpr hbx hbw hfar hks hlt
            rcases hor with ho | ⟨ho1, ho2⟩
            · have ho' : (f.puts.length : Int) ≤ k := by omega
              go_wp2_with fail
              go_meet
              case rel => exact HREL.out
            · have ho1' : (k : Int) < f.puts.length := by omega
              have ho2' : (f.its.length : Int) ≤ 0 := by omega
              go_wp2_with fail
              go_meet
              case rel => exact HREL.out
      case rest =>
      clear HPR3 HBX3 c6
      obtain ⟨s, x, hpr, hbx, hfar, hks⟩ := hcut
      have HPR4 := Lib.hid hpr; have HBX4 := Lib.hid hbx; have HFAR4 := Lib.hid hfar; have HKS := Lib.hid hks
      clear hpr hbx hfar hks
      go_upto_block 4 with (fail)
      go_cut [] (fun wx => ∃ s4 x4, Pr w wx B R { v0 fc with its := f.its } s4 x4 ∧ BxF f fc w.heap.size q4 (.pointer (some ⟨B.wb, 0, none⟩)) (.pointer (some ⟨R.wb, 0, none⟩)) wx ∧ Far s4 x4 162 ∧ (f.ticks ≤ 0 → s4 = s))
      case first =>
        go_wp2_with fail
        go_loopw [7] (fun i wr => ∃ (k : Nat) (s' : CS) (x' : RS), k ≤ 40 ∧ i = .int .i64 k ∧ Pr w wr B R { v0 fc with its := f.its } s' x' ∧ BxF f fc w.heap.size q4 (.pointer (some ⟨B.wb, 0, none⟩)) (.pointer (some ⟨R.wb, 0, none⟩)) wr ∧ Far s' x' (122 + k) ∧ (k = 0 → s' = s) ∧ (0 < k → 0 < f.ticks)) (fun i _ => 40 - (intOf i).toNat)
        case atStart => exact ⟨0, _, _, by omega, rfl, HPR4.out, HBX4.out, HFAR4.out, fun _ => rfl, fun h => by omega⟩
        case round =>
          clear HPR4 HBX4
          obtain ⟨k2, s', x', hk2, rfl, hpr, hbx, hfar, hks, hkt⟩ := hrel
          have c9 : wr.cell? ⟨w.heap.size, 9, none⟩ = some (.int .i64 f.ticks) := hcell hbx.hF 9
          have c40 := hcell hbx.h4 0
          have c41 := hcell hbx.h4 1
          by_cases hlt2 : (k2 : Int) < f.ticks ∧ k2 < 40
          · obtain ⟨ht1, ht2⟩ := hlt2
            have ht2' : (k2 : Int) < 40 := by omega
            have htk := ptick_any hpr (122 + k2) hfar (by omega)
            have HBX := Lib.hid hbx
            have HF2 := Lib.hid (hfar.acc hpr.al 3 8 (eTick (s'.val 8)))
            clear hpr hbx hfar hks hkt
            go_wp2_with (go_at_call 29; refine htk.mono ?_; rintro e w12 ⟨rfl, h12, f12⟩; have HN := Lib.hid (And.intro h12 (HBX.out.fr f12 rfl rfl rfl)); clear h12 f12 htk c9 c40 c41)
            go_roundw
            case rel => exact ⟨k2 + 1, _, _, by omega, by go_num, HN.out.1, HN.out.2, HF2.out, fun h => by omega, fun _ => by omega⟩
            case measure => simp [intOf]; omega
          · have HREL : Hid (∃ s4 x4, Pr w wr B R { v0 fc with its := f.its } s4 x4 ∧ BxF f fc w.heap.size q4 (.pointer (some ⟨B.wb, 0, none⟩)) (.pointer (some ⟨R.wb, 0, none⟩)) wr ∧ Far s4 x4 162 ∧ (f.ticks ≤ 0 → s4 = s)) :=
              ⟨s', x', hpr, hbx, ⟨by have := hfar.1; omega, by have := hfar.2.1; omega, by have := hfar.2.2; omega⟩, fun h => hks (by by_cases c : k2 = 0; exact c; have := hkt (by omega); omega)⟩
            have hor : ¬ (k2 : Int) < f.ticks ∨ ((k2 : Int) < f.ticks ∧ ¬ k2 < 40) := by omega
            clear hpr hbx hfar hks hkt hlt2 c40 c41
            rcases hor with ho5 | ⟨ho5, ho6⟩
            · have ho5' : f.ticks ≤ (k2 : Int) := by omega
              go_wp2_with fail
              go_meet
              case rel => exact HREL.out
            · have ho6' : (40 : Int) ≤ (k2 : Int) := by omega
              go_wp2_with fail
              go_meet
              case rel => exact HREL.out
      case rest =>
      clear HPR4 HBX4
      obtain ⟨s', x', hpr, hbx, hfar, hks2⟩ := hcut
      have HPR5 := Lib.hid hpr; have HBX5 := Lib.hid hbx; have HFAR5 := Lib.hid hfar; have HKS2 := Lib.hid hks2
      clear hpr hbx hfar hks2
      go_upto_block 6 with (fail)
      go_cut [] (fun wx => ∃ s3 x3, Pr w wx B R { v0 fc with its := f.its } s3 x3 ∧ BxF f fc w.heap.size q4 (.pointer (some ⟨B.wb, 0, none⟩)) (.pointer (some ⟨R.wb, 0, none⟩)) wx ∧ Far s3 x3 300 ∧ (f.sts = [] → s3 = s'))
      case first =>
        have c8 : wc.cell? ⟨w.heap.size, 8, none⟩ = some (.slice f.sa f.sts.length f.sc) := hcell HBX5.out.hF 8
        go_wp2_with fail
        clear c8
        go_loopw [8] (fun i wr => ∃ (k : Nat) (s3 : CS) (x3 : RS), k ≤ f.sts.length ∧ i = .int .i64 k ∧ Pr w wr B R { v0 fc with its := f.its } s3 x3 ∧ BxF f fc w.heap.size q4 (.pointer (some ⟨B.wb, 0, none⟩)) (.pointer (some ⟨R.wb, 0, none⟩)) wr ∧ Far s3 x3 (162 + k) ∧ (k = 0 → s3 = s')) (fun i _ => f.sts.length - (intOf i).toNat)
        case atStart => exact ⟨0, _, _, by omega, rfl, HPR5.out, HBX5.out, HFAR5.out, fun _ => rfl⟩
        case round =>
          clear HPR5 HBX5
          obtain ⟨k3, s3, x3, hk3, rfl, hpr, hbx, hfar, hks⟩ := hrel
          have hbw := hpr.ws.below
          have hns := HIN.out.ns
          have c8 : wr.cell? ⟨w.heap.size, 8, none⟩ = some (.slice f.sa f.sts.length f.sc) := hcell hbx.hF 8
          by_cases hlt3 : k3 < f.sts.length
          · obtain ⟨b, off, sx, sy, hsa, hsx, hswf, q0, q1⟩ := HIN.out.sts.at k3 hlt3
            have hg : b < w.heap.size := World.block_lt_of_cell? _ _ q0
            have q0 := (hbw.cell (p := ⟨b, _, none⟩) hg).trans q0
            have q1 := (hbw.cell (p := ⟨b, _, none⟩) hg).trans q1
            rw [hsa] at c8
            have x0 := fun st : ExtW wr => st.cell (hcell hbx.h4 0)
            have x1 := fun st : ExtW wr => st.cell (hcell hbx.h4 1)
            have x2' := fun st : ExtW wr => st.cell c8
            have z0 := fun st : ExtW wr => st.cell q0
            have z1 := fun st : ExtW wr => st.cell q1
            have hst : ∀ W, Below wr.heap.size wr W → Calls Tryz.prog 13 #[.agg #[.pointer (some ⟨B.wb, 0, none⟩), .pointer (some ⟨R.wb, 0, none⟩)], .agg #[.int .u64 sx, .int .u64 sy]] W fun e w' => e = .returned (.tuple #[]) ∧ Pr w w' B R { v0 fc with its := f.its } (s3.acc 2 sx sy) (x3.acc 2 sx sy) ∧ Fr wrTy true W w' := fun W hW => pstore_any (hpr.keep hW) (162 + k3) hfar (by omega) sx sy hswf.1 hswf.2
            have hlt3' : (k3 : Int) < f.sts.length := by omega
            have HST := Lib.hid hst; have HBX := Lib.hid hbx
            have HF3 := Lib.hid (hfar.acc hpr.al 2 sx sy)
            clear hpr hbx hbw q0 q1 hst hsa hg hfar hks hsx hswf
            go_wp2
            refine wp_region_segs [6] (by kernel_rfl) (by kernel_rfl) (by kernel_rfl) ?_
            simp only [Segs, List.take_succ_cons, List.take_zero, List.drop_succ_cons, List.drop_zero]
            repeat (go_big_quiet_step (fail))
            refine wpQuiet_nil ?_
            rintro W ⟨⟨W2, hW⟩, rfl⟩
            clear x0 x1 x2' z0 z1 c8
            refine seg_call rfl (by kernel_rfl) 13 #[.agg #[.pointer (some ⟨B.wb, 0, none⟩), .pointer (some ⟨R.wb, 0, none⟩)], .agg #[.int .u64 sx, .int .u64 sy]] (by kernel_rfl) ?_
            refine (HST.out _ hW).mono ?_
            rintro e w12 ⟨rfl, h12, f12⟩
            refine ⟨_, rfl, ?_⟩
            refine wpQuiet_nil ?_
            rintro W3' ⟨⟨W4', hW3⟩, rfl⟩
            have HN := Lib.hid (And.intro (h12.keep hW3) (((HBX.out.below hW).fr f12 rfl rfl rfl).below hW3))
            clear hW h12 f12 hW3
            go_wp2
            go_roundw
            case rel => exact ⟨k3 + 1, _, _, by omega, by go_num, HN.out.1, HN.out.2, HF3.out, fun h => by omega⟩
            case measure => simp [intOf]; omega
          · obtain rfl : k3 = f.sts.length := by omega
            have HREL : Hid (∃ s3 x3, Pr w wr B R { v0 fc with its := f.its } s3 x3 ∧ BxF f fc w.heap.size q4 (.pointer (some ⟨B.wb, 0, none⟩)) (.pointer (some ⟨R.wb, 0, none⟩)) wr ∧ Far s3 x3 300 ∧ (f.sts = [] → s3 = s')) :=
              ⟨s3, x3, hpr, hbx, ⟨by have := hfar.1; omega, by have := hfar.2.1; omega, by have := hfar.2.2; omega⟩, fun h => hks (by rw [h]; rfl)⟩
            clear hpr hbx hbw hfar hks hlt3
            go_wp2_with fail
            go_meet
            case rel => exact HREL.out
      case rest =>
      clear HPR5 HBX5
      obtain ⟨s3, x3, hpr, hbx, hfar6, hks3⟩ := hcut
      have HPR6 := Lib.hid hpr; have HBX6 := Lib.hid hbx; have HFAR6 := Lib.hid hfar6; have HKS3 := Lib.hid hks3
      have c40 := hcell hbx.h4 0
      have c41 := hcell hbx.h4 1
      have e20 := hcell hbx.h2 0
      have e21 := hcell hbx.h2 1
      have ef := hfrz hbx.h2
      clear hpr hbx hfar6 hks3
      go_upto_region 27 with (fail)
      iterate 11 (first | go_says fail | go_values | go_skip | go_guarded | go_step | go_upon | go_back)
      have h2s := setCell_same (setCell_same HBX6.out.h2 0 (.pointer (some ⟨B.wb, 0, none⟩))) 1 (.pointer (some ⟨R.wb, 0, none⟩))
      have r0 := hcell h2s 0
      have r1 := hcell h2s 1
      refine bodyPost_ret (v := .agg #[.pointer (some ⟨B.wb, 0, none⟩), .pointer (some ⟨R.wb, 0, none⟩)]) (by simp [results, Tryz.results9, go_sem, r0, r1]; done) rfl ?_
      have hf2 := (setPair_fr HBX6.out.h2 0 (.pointer (some ⟨B.wb, 0, none⟩))).trans (setPair_fr (setCell_same HBX6.out.h2 0 (.pointer (some ⟨B.wb, 0, none⟩))) 1 (.pointer (some ⟨R.wb, 0, none⟩)))
      have hB2 := below_set (o := 1) (v := .pointer (some ⟨R.wb, 0, none⟩)) (below_set (o := 0) (v := .pointer (some ⟨B.wb, 0, none⟩)) HPR6.out.ws.below (Nat.le_succ _)) (Nat.le_succ _)
      exact ⟨B, R, _, s3, x3, rfl, ⟨HPR6.out.ws.fr hf2 pairTy_w hB2, HPR6.out.rd.fr hf2 pairTy_r hB2, HPR6.out.al⟩, by rw [show f.conf = fc from HFC.out], HFAR6.out, by rw [show f.conf = fc from HFC.out]; exact HOK.out, fun g1 g2 g3 g4 => by
        rw [HKS3.out g3, HKS2.out g4, HKS.out g2, HS2.out g1, show f.conf = fc from HFC.out]; exact HS1.out.symm⟩

end Go.Proofs.YtmakjfeepmiggaaGreat

/-
  A First that comes in: opened; is it great?
-/
namespace Go.Proofs.YtmakjfeepmiggaaGreat
open Go.RowKit
set_option linter.unusedVariables false

/-- It may be read. -/
structure FstRd (w : World) (f : Fst) : Prop where
  its : Itms w (.slice f.ia f.its.length f.ic) f.its
  puts : Tri w f.pa f.pc f.puts
  sts : RWds w f.sa f.sc f.sts
theorem FstRd.below {w w' : World} {f : Fst} (h : FstRd w f) (hb : Below w.heap.size w w') : FstRd w' f := ⟨h.its.below hb (Nat.le_refl _), h.puts.below hb, h.sts.below hb⟩
theorem wf_u8 {x : Int} (h : (Lit.int .u8 x).wf = true) : 0 ≤ x ∧ x < 256 := by
  have hmin : IntKind.u8.min = 0 := rfl
  have hmax : IntKind.u8.max = 255 := rfl
  simp only [Lit.wf, Bool.and_eq_true, decide_eq_true_eq] at h; omega
theorem tri_of {w : World} {v : Value} (h : Leaf.holds w (.sl [.int .u8, .int .u8, .int .u8]) v) : ∃ (l : List (Int × Int × Int)) (a : Option Addr) (cap : Nat), v = .slice a l.length cap ∧ Tri w a cap l := by
  obtain ⟨l, a, cap, rfl, h1, h2, h3, h4, h5⟩ := recs_of h
  obtain ⟨m, hm, hp⟩ := list_of (fun i (x : Int × Int × Int) => l[i]? = some [.int .u8 x.1, .int .u8 x.2.1, .int .u8 x.2.2] ∧ (0 ≤ x.1 ∧ x.1 < 256) ∧ (0 ≤ x.2.1 ∧ x.2.1 < 256) ∧ (0 ≤ x.2.2 ∧ x.2.2 < 256)) l.length (fun i hi => by
    obtain ⟨c0, r, e0, g0, h⟩ := allHold_cons (h4 _ (List.getElem_mem hi))
    obtain ⟨c1, r, rfl, g1, h⟩ := allHold_cons h
    obtain ⟨c2, r, rfl, g2, h⟩ := allHold_cons h
    obtain rfl := allHold_nil h
    obtain ⟨z0, rfl, k0⟩ := holds_int g0
    obtain ⟨z1, rfl, k1⟩ := holds_int g1
    obtain ⟨z2, rfl, k2⟩ := holds_int g2
    exact ⟨(z0, z1, z2), by rw [List.getElem?_eq_getElem hi, e0], wf_u8 k0, wf_u8 k1, wf_u8 k2⟩)
  refine ⟨m, a, cap, by rw [hm], ⟨by omega, h2, fun x hx => ?_, ?_⟩⟩
  · obtain ⟨i, hi, rfl⟩ := List.mem_iff_getElem.1 hx
    exact (hp i hi).2
  · rcases h5 with rfl | ⟨b, off, rfl, h6⟩
    · exact .inl (List.length_eq_zero_iff.1 hm)
    · refine .inr ⟨b, off, rfl, fun i hi => ?_⟩
      have hi2 : i < l.length := by omega
      have hq := (hp i (by omega)).1
      rw [List.getElem?_eq_getElem hi2, Option.some.injEq] at hq
      have a0 := h6 i hi2 0 (by decide)
      have a1 := h6 i hi2 1 (by decide)
      have a2 := h6 i hi2 2 (by decide)
      rw [hq] at a0 a1 a2
      exact ⟨by simpa using a0, by simpa [Nat.add_assoc] using a1, by simpa [Nat.add_assoc] using a2⟩
theorem wds_of {w : World} {v : Value} (h : Leaf.holds w (.sl [.int .u64, .int .u64]) v) : ∃ (l : List (Int × Int)) (a : Option Addr) (cap : Nat), v = .slice a l.length cap ∧ RWds w a cap l := by
  obtain ⟨l, a, cap, rfl, h1, h2, h3, h4, h5⟩ := recs_of h
  obtain ⟨m, hm, hp⟩ := list_of (fun i (x : Int × Int) => l[i]? = some [.int .u64 x.1, .int .u64 x.2] ∧ (Lit.int .u64 x.1).wf = true ∧ (Lit.int .u64 x.2).wf = true) l.length (fun i hi => by
    obtain ⟨c0, r, e0, g0, h⟩ := allHold_cons (h4 _ (List.getElem_mem hi))
    obtain ⟨c1, r, rfl, g1, h⟩ := allHold_cons h
    obtain rfl := allHold_nil h
    obtain ⟨z0, rfl, k0⟩ := holds_int g0
    obtain ⟨z1, rfl, k1⟩ := holds_int g1
    exact ⟨(z0, z1), by rw [List.getElem?_eq_getElem hi, e0], k0, k1⟩)
  refine ⟨m, a, cap, by rw [hm], ⟨by omega, h2, fun x hx => ?_, ?_⟩⟩
  · obtain ⟨i, hi, rfl⟩ := List.mem_iff_getElem.1 hx
    exact (hp i hi).2
  · rcases h5 with rfl | ⟨b, off, rfl, h6⟩
    · exact .inl (List.length_eq_zero_iff.1 hm)
    · refine .inr ⟨b, off, rfl, fun i hi => ?_⟩
      have hi2 : i < l.length := by omega
      have hq := (hp i (by omega)).1
      rw [List.getElem?_eq_getElem hi2, Option.some.injEq] at hq
      have a0 := h6 i hi2 0 (by decide)
      have a1 := h6 i hi2 1 (by decide)
      rw [hq] at a0 a1
      exact ⟨by simpa using a0, by simpa [Nat.add_assoc] using a1⟩
def fstLeaves : List Leaf := [.int .i64, .int .i64, .int .i64, .int .i64, .int .i64, .bool, .sl itmLeaves, .sl [.int .u8, .int .u8, .int .u8], .sl [.int .u64, .int .u64], .int .i64]
theorem leaves_first : leaves Tryz.prog 5 28 = some fstLeaves := by kernel_rfl
theorem fst_of {w : World} {cs : List Value} (h : Leaf.allHold w fstLeaves cs) : ∃ f : Fst, cs = f.cells.toList ∧ FstRd w f := by
  unfold fstLeaves at h
  obtain ⟨c0, r, rfl, g0, h⟩ := allHold_cons h
  obtain ⟨c1, r, rfl, g1, h⟩ := allHold_cons h
  obtain ⟨c2, r, rfl, g2, h⟩ := allHold_cons h
  obtain ⟨c3, r, rfl, g3, h⟩ := allHold_cons h
  obtain ⟨c4, r, rfl, g4, h⟩ := allHold_cons h
  obtain ⟨c5, r, rfl, g5, h⟩ := allHold_cons h
  obtain ⟨c6, r, rfl, g6, h⟩ := allHold_cons h
  obtain ⟨c7, r, rfl, g7, h⟩ := allHold_cons h
  obtain ⟨c8, r, rfl, g8, h⟩ := allHold_cons h
  obtain ⟨c9, r, rfl, g9, h⟩ := allHold_cons h
  obtain rfl := allHold_nil h
  obtain ⟨z0, rfl, -⟩ := holds_int g0
  obtain ⟨z1, rfl, -⟩ := holds_int g1
  obtain ⟨z2, rfl, -⟩ := holds_int g2
  obtain ⟨z3, rfl, -⟩ := holds_int g3
  obtain ⟨z4, rfl, -⟩ := holds_int g4
  obtain ⟨z5, rfl⟩ := holds_bool g5
  obtain ⟨z9, rfl, -⟩ := holds_int g9
  obtain ⟨its, hi⟩ := itms_of g6
  obtain ⟨ia, ic, rfl, hi2⟩ := id hi
  obtain ⟨puts, pa, pc, rfl, hp⟩ := tri_of g7
  obtain ⟨sts, sa, sc, rfl, hs⟩ := wds_of g8
  exact ⟨⟨⟨z0, z1, z2, z3, z4⟩, z5, ia, ic, its, pa, pc, puts, sa, sc, sts, z9⟩, rfl, hi, hp, hs⟩

set_option maxRecDepth 10000 in
theorem fst_open {H : Type} {w : World} {enc : TypeId × Value → H} {base : Nat} {v : Value} {d : DataW H} {p : List MemPlace} (k : DataW.Trod enc Tryz.prog w 0 (fun _ => true) true 28 v d p) (o : Value.okWide Tryz.prog w .any base 28 v) : ∃ f : Fst, v = .agg f.cells ∧ FstRd w f := by
  obtain ⟨cs, rfl, -⟩ := Go.WideShapes.okWide_struct Tryz.underlying28 o
  obtain ⟨f, hf, hr⟩ := fst_of (opened leaves_first k)
  refine ⟨f, ?_, hr⟩
  have : cs.toList = f.cells.toList := hf
  rw [Array.toList_inj.1 this]
theorem fst_cells {W : World} {q : Nat} {f : Fst} (z : W.heap[q]? = some (.cells f.cells 28 (0, 0))) : W.cell? ⟨q, 0, none⟩ = some (.int .i64 f.c.bits) ∧ W.cell? ⟨q, 1, none⟩ = some (.int .i64 f.c.budget) ∧ W.cell? ⟨q, 2, none⟩ = some (.int .i64 f.c.tries) ∧ W.cell? ⟨q, 3, none⟩ = some (.int .i64 f.c.quantum) ∧ W.cell? ⟨q, 4, none⟩ = some (.int .i64 f.c.way) ∧ W.cell? ⟨q, 5, none⟩ = some (.bool f.gr) ∧ W.cell? ⟨q, 6, none⟩ = some (.slice f.ia f.its.length f.ic) ∧ W.cell? ⟨q, 7, none⟩ = some (.slice f.pa f.puts.length f.pc) ∧ W.cell? ⟨q, 8, none⟩ = some (.slice f.sa f.sts.length f.sc) ∧ W.cell? ⟨q, 9, none⟩ = some (.int .i64 f.ticks) :=
  ⟨hcell z 0, hcell z 1, hcell z 2, hcell z 3, hcell z 4, hcell z 5, hcell z 6, hcell z 7, hcell z 8, hcell z 9⟩

set_option maxRecDepth 100000 in
set_option maxHeartbeats 2000000 in
theorem great_any (f : Fst) (w : World) (hr : FstRd w f) : Calls Tryz.prog 7 #[.agg #[.int .i64 f.c.bits, .int .i64 f.c.budget, .int .i64 f.c.tries, .int .i64 f.c.quantum, .int .i64 f.c.way, .bool f.gr, .slice f.ia f.its.length f.ic, .slice f.pa f.puts.length f.pc, .slice f.sa f.sts.length f.sc, .int .i64 f.ticks]] w
    fun e w' => ∃ g, e = .returned (.bool g) ∧ Below w.heap.size w w' ∧ (g = false → FstIn w f ∧ ∀ y ∈ f.its, y.key.size ≤ 400 ∧ y.val.size ≤ 2000) := by
  have hB := below_alloc w (.cells f.cells 28)
  have z := heap_alloc_new w (.cells f.cells 28)
  have HR := Lib.hid hr; have HB := Lib.hid hB
  clear hr hB
  go_enter Tryz.func7, Tryz.ntmps7
  go_upto_region 1 with (fail)
  change Code.wp _ _ _ _ (w.alloc (.cells f.cells 28))
  generalize w.alloc (.cells f.cells 28) = w1 at *
  have c6 : w1.cell? ⟨w.heap.size, 6, none⟩ = some (.slice f.ia f.its.length f.ic) := hcell z 6
  have c7 : w1.cell? ⟨w.heap.size, 7, none⟩ = some (.slice f.pa f.puts.length f.pc) := hcell z 7
  have c8 : w1.cell? ⟨w.heap.size, 8, none⟩ = some (.slice f.sa f.sts.length f.sc) := hcell z 8
  clear z
  by_cases h1 : 40 < f.its.length
  · have d1 : decide ((40 : Int) < f.its.length) = true := by simp; omega
    go_wp2
    go_ret
    exact ⟨true, rfl, HB.out, fun h => by cases h⟩
  have d1 : decide ((40 : Int) < f.its.length) = false := by simp; omega
  by_cases h2 : 60 < f.puts.length
  · have d2 : decide ((60 : Int) < f.puts.length) = true := by simp; omega
    go_wp2
    go_ret
    exact ⟨true, rfl, HB.out, fun h => by cases h⟩
  have d2 : decide ((60 : Int) < f.puts.length) = false := by simp; omega
  by_cases h3 : 60 < f.sts.length
  · have d3 : decide ((60 : Int) < f.sts.length) = true := by simp; omega
    go_wp2
    go_ret
    exact ⟨true, rfl, HB.out, fun h => by cases h⟩
  have d3 : decide ((60 : Int) < f.sts.length) = false := by simp; omega
  have HN : Hid (f.its.length ≤ 40 ∧ f.puts.length ≤ 60 ∧ f.sts.length ≤ 60) := ⟨by omega, by omega, by omega⟩
  clear h2 h3
  go_wp2_with fail
  clear d1 d2 d3
  go_loopw [3] (fun i wr => ∃ k : Nat, k ≤ f.its.length ∧ i = .int .i64 k ∧ w1 = wr ∧ ∀ j, (hj : j < f.its.length) → j < k → (f.its[j]).key.size ≤ 400 ∧ (f.its[j]).val.size ≤ 2000) (fun i _ => f.its.length - (intOf i).toNat)
  case atStart => exact ⟨0, by omega, rfl, rfl, fun j _ h => by omega⟩
  case round =>
    obtain ⟨k, hk, rfl, rfl, hs⟩ := hrel
    by_cases hlt : k < f.its.length
    · have hlt' : (k : Int) < f.its.length := by omega
      obtain ⟨b, off, y, hia, hy, q0, q1, q2, q3, q4, q5⟩ := Itms.cell HR.out.its k hlt
      have hg : b < w.heap.size := World.block_lt_of_cell? _ _ q0
      have q0 := (HB.out.cell (p := ⟨b, _, none⟩) hg).trans q0
      have q1 := (HB.out.cell (p := ⟨b, _, none⟩) hg).trans q1
      rw [hia] at c6
      have hyk : f.its[k] = y := by rw [List.getElem?_eq_getElem hlt] at hy; exact Option.some.inj hy
      have HS := Lib.hid hs; have HY := Lib.hid hyk
      clear hs hy hyk hia hg q2 q3 q4 q5
      by_cases hk1 : 400 < y.key.size
      · have e1 : decide ((400 : Int) < y.key.size) = true := by simp; omega
        go_wp2
        go_ret
        exact ⟨true, rfl, HB.out, fun h => by cases h⟩
      have e1 : decide ((400 : Int) < y.key.size) = false := by simp; omega
      by_cases hv1 : 2000 < y.val.size
      · have e2 : decide ((2000 : Int) < y.val.size) = true := by simp; omega
        go_wp2
        go_ret
        exact ⟨true, rfl, HB.out, fun h => by cases h⟩
      have e2 : decide ((2000 : Int) < y.val.size) = false := by simp; omega
      have HYS : Hid (y.key.size ≤ 400 ∧ y.val.size ≤ 2000) := ⟨by omega, by omega⟩
      clear hk1 hv1
      go_wp2
      go_roundw
      case rel => exact ⟨k + 1, by omega, by go_num, by first | rfl | trivial, fun j hj hjk => by
        rcases Nat.lt_or_ge j k with h | h
        · exact HS.out j hj h
        · obtain rfl : j = k := by omega
          rw [HY.out]; exact HYS.out⟩
      case measure => simp [intOf]; omega
    · obtain rfl : k = f.its.length := by omega
      have HS := Lib.hid hs
      clear hs
      go_wp2
      go_ret
      refine ⟨false, rfl, HB.out, fun _ => ?_⟩
      have hall : ∀ y ∈ f.its, y.key.size ≤ 400 ∧ y.val.size ≤ 2000 := fun y hy => by
        obtain ⟨i, hi, rfl⟩ := List.mem_iff_getElem.1 hy
        exact HS.out i hi hi
      exact ⟨⟨HR.out.its, HR.out.puts, HR.out.sts, HN.out.1, HN.out.2.1, HN.out.2.2, fun y hy => by have := (hall y hy).1; omega⟩, hall⟩
end Go.Proofs.YtmakjfeepmiggaaGreat

/-
  WorldsPlay: an act, in both worlds. (written by genwplay.py)
-/
namespace Go.Proofs.YtmakjfeepmiggaaGreat
open Go.RowKit Go.Maps
set_option linter.unusedVariables false

theorem cbudget {c : Conf} (h : c.ok = true) : (1 ≤ c.budget ∧ c.budget ≤ 65536) ∧ (Lit.int .i64 c.budget).wf = true := by
  unfold Conf.ok at h
  simp only [Bool.and_eq_true, decide_eq_true_eq] at h
  have hb := h.1.1.1.2
  have hmin : IntKind.i64.min = -9223372036854775808 := rfl
  have hmax : IntKind.i64.max = 9223372036854775807 := rfl
  exact ⟨hb, by simp only [Lit.wf, Bool.and_eq_true, decide_eq_true_eq]; omega⟩
/-- What stands between two acts. -/
structure DPS (w0 w : World) (B R : WB) (V : WV) (s : CS) (x : RS) (m : Nat) : Prop where
  pr : Pr w0 w B R V s x
  far : Far s x (300 + m)
  cok : V.c.ok = true
  nn : V.nts.length ≤ m
  ni : V.its.length ≤ 100 + m
  st : Nsteps V.nts s.cnt
  nk : Nkinds V.nts
section
variable {w0 w w' : World} {B R : WB} {V : WV} {s : CS} {x : RS} {m m' : Nat}
theorem DPS.keep (h : DPS w0 w B R V s x m) (hb : Below w.heap.size w w') : DPS w0 w' B R V s x m := ⟨h.pr.keep hb, h.far, h.cok, h.nn, h.ni, h.st, h.nk⟩
theorem DPS.le (h : DPS w0 w B R V s x m) (hm : m ≤ m') : DPS w0 w B R V s x m' := ⟨h.pr, ⟨Nat.le_trans h.far.1 (by omega), Nat.le_trans h.far.2.1 (by omega), Nat.le_trans h.far.2.2 (by omega)⟩, h.cok, Nat.le_trans h.nn hm, by have := h.ni; omega, h.st, h.nk⟩
theorem DPS.acc (h : DPS w0 w B R V s x m) (k a i : Int) (hp : Pr w0 w' B R V (s.acc k a i) (x.acc k a i)) : DPS w0 w' B R V (s.acc k a i) (x.acc k a i) (m + 1) :=
  ⟨hp, by have := h.far.acc h.pr.al k a i; rw [Nat.add_assoc] at this; exact this, h.cok, Nat.le_succ_of_le h.nn, by have := h.ni; omega, h.st.le (by simp only [CS.acc]; omega), h.nk⟩
end
section
variable {w0 w : World} {B R : WB} {V : WV} {s : CS} {x : RS} {m : Nat}
def DoPost (w0 w : World) (B R : WB) (m : Nat) (e : Ending) (w' : World) : Prop := e = .returned (.bool true) ∧ Fr wrTy true w w' ∧ ∃ V s x, DPS w0 w' B R V s x (m + 1)
abbrev SFour (q ab : Nat) (B R : WB) (a : Int) (W : World) : Prop := W.cell? ⟨q, 0, none⟩ = some (.pointer (some ⟨B.wb, 0, none⟩)) ∧ W.cell? ⟨q, 1, none⟩ = some (.pointer (some ⟨R.wb, 0, none⟩)) ∧ W.cell? ⟨B.wb, 0, none⟩ = some (.pointer (some ⟨B.cb, 0, none⟩)) ∧ W.cell? ⟨ab, 7, none⟩ = some (.int .u64 a)
theorem fr_drew {K : TypeId → Bool} {mp : Bool} {w w' : World} (h : Fr K mp w.drew w') : Fr K mp w w' := ⟨h.size, fun k cs T fr hk hT => h.cells k cs T fr hk hT, fun hm k es cl hk => h.map hm k es cl hk⟩
end
end Go.Proofs.YtmakjfeepmiggaaGreat

/-
  Operations of both sides beside a world, whatever they are: what stands between two acts of a play.
-/
namespace Go.Proofs.YtmakjfeepmiggaaGreat
open Go.RowKit Go.Maps
set_option linter.unusedVariables false

/-- An operation of both sides: where they lie, and what is so of them. -/
structure PO (α : Type) where
  pb : Nat
  rb : Nat
  a : α
def PO.vals {α : Type} (o : PO α) : List Value := [.pointer (some ⟨o.pb, 0, none⟩), .pointer (some ⟨o.rb, 0, none⟩)]
/-- Blocks of some types are as they were. -/
def ZKeep (Z : TypeId → Bool) (w w' : World) : Prop := ∀ (k : Nat) (cs : Array Value) (T : TypeId) (fr : Nat × Nat), w.heap[k]? = some (.cells cs T fr) → Z T = true → w'.heap[k]? = some (.cells cs T fr)
/-- What an operation rests on: the blocks S (cells of the types Q, or maps), and cells of the types Z, that nobody turns. -/
structure POLaw {α : Type} (OT : TypeId) (Q Z : TypeId → Bool) (P : World → Nat → PO α → (Nat → Prop) → Prop) : Prop where
  q : ∀ T, Q T = true → wrTy T = false ∧ T ≠ 34 ∧ T ≠ OT ∧ Z T = false
  z : ∀ T, Z T = true → wrTy T = false ∧ T ≠ OT
  ot : wrTy OT = false ∧ OT ≠ 34
  keep : ∀ {w w' : World} {lo : Nat} {o : PO α} {S : Nat → Prop}, P w lo o S → w.heap.size ≤ w'.heap.size → (∀ k, S k → w'.heap[k]? = w.heap[k]?) → ZKeep Z w w' → P w' lo o S
  lo : ∀ {w : World} {lo : Nat} {o : PO α} {S : Nat → Prop} {k : Nat}, P w lo o S → S k → lo ≤ k
  lower : ∀ {w : World} {lo lo' : Nat} {o : PO α} {S : Nat → Prop}, P w lo o S → lo' ≤ lo → P w lo' o S
  blk : ∀ {w : World} {lo : Nat} {o : PO α} {S : Nat → Prop} {k : Nat}, P w lo o S → S k → (∃ cs T fr, w.heap[k]? = some (.cells cs T fr) ∧ Q T = true) ∨ ∃ es cl, w.heap[k]? = some (.map es cl)
/-- The maps among some blocks are known to the world as others'. -/
def MapsIn (w : World) (V : WV) (S : Nat → Prop) : Prop := ∀ k es cl, S k → w.heap[k]? = some (.map es cl) → (k, es, cl) ∈ V.fm
/-- Of the old blocks only such of a world, and S, have turned. -/
structure OFr (S : Nat → Prop) (V V' : WV) (w w' : World) : Prop where
  size : w.heap.size ≤ w'.heap.size
  cells : ∀ (k : Nat) (cs : Array Value) (T : TypeId) (fr : Nat × Nat), w.heap[k]? = some (.cells cs T fr) → wrTy T = false → ¬ S k → w'.heap[k]? = some (.cells cs T fr)
  map : ∀ (k : Nat) (es : Array MapEntry) (cl : Nat), w.heap[k]? = some (.map es cl) → (k, es, cl) ∈ V.fm → ¬ S k → w'.heap[k]? = some (.map es cl) ∧ (k, es, cl) ∈ V'.fm
structure OPS {α : Type} (OT : TypeId) (P : World → Nat → PO α → (Nat → Prop) → Prop) (w0 w : World) (B R : WB) (q : Nat) (V : WV) (s : CS) (x : RS) (m : Nat) (L : List (PO α)) (v : Value) : Prop where
  d : DPS w0 w B R V s x m
  pq : w.heap[q]? = some (.cells #[.pointer (some ⟨B.wb, 0, none⟩), .pointer (some ⟨R.wb, 0, none⟩)] 34 (0, 0))
  row : w.ownsRow w0.heap.size OT 2 v L.length (L.flatMap PO.vals)
  ops : ∃ F : Nat → Nat → Prop, (∀ i (hi : i < L.length), P w w0.heap.size L[i] (F i) ∧ MapsIn w V (F i)) ∧ ∀ i j, i < L.length → j < L.length → i ≠ j → ∀ k, F i k → ¬ F j k
theorem ocell_ty {w : World} {k : Nat} {cs cs' : Array Value} {T T' : TypeId} {fr fr' : Nat × Nat} (h : w.heap[k]? = some (.cells cs T fr)) (h' : w.heap[k]? = some (.cells cs' T' fr')) : T = T' := by
  have := h.symm.trans h'; simp only [Option.some.injEq, Obj.cells.injEq] at this; exact this.2.1
theorem zkeep_below {Z : TypeId → Bool} {w w' : World} (hb : Below w.heap.size w w') : ZKeep Z w w' := fun k cs T fr h _ => (hb.block k (Array.getElem?_eq_some_iff.1 h).1).trans h
theorem zkeep_fr {K Z : TypeId → Bool} {mp : Bool} {w w' : World} (hf : Fr K mp w w') (hK : ∀ T, Z T = true → K T = false) : ZKeep Z w w' := fun k cs T fr h hT => hf.cells k cs T fr h (hK T hT)
theorem heap_lt {w : World} {k : Nat} {o : Obj} (h : w.heap[k]? = some o) : k < w.heap.size := (Array.getElem?_eq_some_iff.1 h).1
section
variable {α : Type} {OT : TypeId} {Q Z : TypeId → Bool} {P : World → Nat → PO α → (Nat → Prop) → Prop} {w0 w w' : World} {B R : WB} {q : Nat} {V V' : WV} {s s' : CS} {x x' : RS} {m m' : Nat} {L : List (PO α)} {v : Value}
theorem POLaw.lt (hl : POLaw OT Q Z P) {lo : Nat} {o : PO α} {S : Nat → Prop} {k : Nat} (h : P w lo o S) (hk : S k) : k < w.heap.size := by
  rcases hl.blk h hk with ⟨cs, T, fr, h1, -⟩ | ⟨es, cl, h1⟩ <;> exact heap_lt h1
theorem POLaw.below (hl : POLaw OT Q Z P) {lo : Nat} {o : PO α} {S : Nat → Prop} (h : P w lo o S) (hb : Below w.heap.size w w') : P w' lo o S :=
  hl.keep h hb.size (fun k hk => hb.block k (hl.lt h hk)) (zkeep_below hb)
theorem maps_below {S : Nat → Prop} (h : MapsIn w V S) (hs : ∀ k, S k → k < w.heap.size) (hb : Below w.heap.size w w') : MapsIn w' V S := fun k es cl hk he => h k es cl hk ((hb.block k (hs k hk)).symm.trans he)
theorem OPS.below (hl : POLaw OT Q Z P) (h : OPS OT P w0 w B R q V s x m L v) (hb : Below w.heap.size w w') : OPS OT P w0 w' B R q V s x m L v := by
  obtain ⟨F, h1, h2⟩ := h.ops
  exact ⟨h.d.keep hb, (hb.block _ (heap_lt h.pq)).trans h.pq, own_fr h.row (below_fr hb (fun _ => false) false) rfl, F, fun i hi => ⟨hl.below (h1 i hi).1 hb, maps_below (h1 i hi).2 (fun k hk => hl.lt (h1 i hi).1 hk) hb⟩, h2⟩
theorem OPS.le (h : OPS OT P w0 w B R q V s x m L v) (hm : m ≤ m') : OPS OT P w0 w B R q V s x m' L v := ⟨h.d.le hm, h.pq, h.row, h.ops⟩
/-- The world has turned, by itself. -/
theorem OPS.world (hl : POLaw OT Q Z P) (h : OPS OT P w0 w B R q V s x m L v) (hp : DPS w0 w' B R V' s' x' m') (hV : ∀ p ∈ V.fm, p ∈ V'.fm) (hf : Fr wrTy true w w') : OPS OT P w0 w' B R q V' s' x' m' L v := by
  obtain ⟨F, h1, h2⟩ := h.ops
  have key : ∀ i (hi : i < L.length) k, F i k → w'.heap[k]? = w.heap[k]? := fun i hi k hk => by
    rcases hl.blk (h1 i hi).1 hk with ⟨cs, T, fr, g1, g2⟩ | ⟨es, cl, g1⟩
    · rw [g1]; exact hf.cells _ _ _ _ g1 (hl.q T g2).1
    · rw [g1]; exact (hp.pr.ws.fmk _ (hV _ ((h1 i hi).2 k es cl hk g1))).1
  exact ⟨hp, hf.cells _ _ _ _ h.pq rfl, own_fr h.row hf hl.ot.1, F, fun i hi => ⟨hl.keep (h1 i hi).1 hf.size (key i hi) (zkeep_fr hf fun T hT => (hl.z T hT).1), fun k es cl hk he => hV _ ((h1 i hi).2 k es cl hk ((key i hi k hk).symm.trans he))⟩, h2⟩
theorem oflat_set (L : List (PO α)) (j : Nat) (hj : j < L.length) (o : PO α) (e1 : o.pb = (L[j]).pb) (e2 : o.rb = (L[j]).rb) : (L.set j o).flatMap PO.vals = L.flatMap PO.vals := by
  induction L generalizing j with
  | nil => rfl
  | cons a L ih =>
    cases j with
    | zero => simp only [List.set_cons_zero, List.flatMap_cons]; simp only [List.getElem_cons_zero] at e1 e2; unfold PO.vals; rw [e1, e2]
    | succ j => simp only [List.set_cons_succ, List.flatMap_cons]; rw [ih j (by simpa using hj) (by simpa using e1) (by simpa using e2)]
/-- An operation is taken out, and put back. -/
theorem OPS.take (hl : POLaw OT Q Z P) (h : OPS OT P w0 w B R q V s x m L v) (j : Nat) (hj : j < L.length) : ∃ S, P w w0.heap.size L[j] S ∧ MapsIn w V S ∧
    ∀ (w' : World) (V' : WV) (s' : CS) (x' : RS) (m' : Nat) (o : PO α) (S' : Nat → Prop), o.pb = (L[j]).pb → o.rb = (L[j]).rb → DPS w0 w' B R V' s' x' m' → P w' w0.heap.size o S' → MapsIn w' V' S' → (∀ k, S' k → S k ∨ w.heap.size ≤ k) → OFr S V V' w w' → OPS OT P w0 w' B R q V' s' x' m' (L.set j o) v := by
  obtain ⟨F, h1, h2⟩ := h.ops
  refine ⟨F j, (h1 j hj).1, (h1 j hj).2, fun w' V' s' x' m' o S' e1 e2 hp ho hm hS hf => ?_⟩
  have hoj := (h1 j hj).1
  have hno : ∀ (k : Nat) (cs : Array Value) (T : TypeId) (fr : Nat × Nat), w.heap[k]? = some (.cells cs T fr) → Q T = false → ¬ F j k := fun k cs T fr hk hT c => by
    rcases hl.blk hoj c with ⟨cs2, T2, fr2, g1, g2⟩ | ⟨es, cl, g1⟩
    · rw [ocell_ty hk g1] at hT; rw [hT] at g2; cases g2
    · rw [hk] at g1; cases g1
  have hQ : ∀ T, (wrTy T = true ∨ T = 34 ∨ T = OT ∨ Z T = true) → Q T = false := fun T hT => by
    cases hq : Q T
    · rfl
    · obtain ⟨a1, a2, a3, a4⟩ := hl.q T hq
      rcases hT with hT | hT | hT | hT
      · rw [a1] at hT; cases hT
      · exact absurd hT a2
      · exact absurd hT a3
      · rw [a4] at hT; cases hT
  have hZ : ZKeep Z w w' := fun k cs T fr hk hT => hf.cells k cs T fr hk (hl.z T hT).1 (hno k cs T fr hk (hQ T (.inr (.inr (.inr hT)))))
  have hlen : (L.set j o).length = L.length := List.length_set
  refine ⟨hp, hf.cells _ _ _ _ h.pq rfl (hno _ _ _ _ h.pq (hQ _ (.inr (.inl rfl)))), ?_, fun i => if i = j then S' else F i, fun i hi => ?_, fun a b ha hb hab => ?_⟩
  · rw [hlen, oflat_set L j hj o e1 e2]
    obtain ⟨h3, h4 | ⟨g, cap, cur, hv, hb1, hg, r⟩⟩ := h.row
    · exact ⟨h3, .inl h4⟩
    · exact ⟨h3, .inr ⟨g, cap, cur, hv, hb1, hf.cells _ _ _ _ hg hl.ot.1 (hno _ _ _ _ hg (hQ _ (.inr (.inr (.inl rfl))))), r⟩⟩
  · by_cases e : i = j
    · subst e
      simp only [if_true, List.getElem_set_self]
      exact ⟨ho, hm⟩
    · have hi' : i < L.length := by rw [hlen] at hi; exact hi
      simp only [if_neg e]
      rw [List.getElem_set_ne (fun c => e c.symm)]
      have key : ∀ k, F i k → w'.heap[k]? = w.heap[k]? ∧ ∀ es cl, w.heap[k]? = some (.map es cl) → (k, es, cl) ∈ V'.fm := fun k hk => by
        have hn : ¬ F j k := h2 i j hi' hj e k hk
        rcases hl.blk (h1 i hi').1 hk with ⟨cs, T, fr, g1, g2⟩ | ⟨es, cl, g1⟩
        · refine ⟨by rw [g1]; exact hf.cells _ _ _ _ g1 (hl.q T g2).1 hn, fun es cl g3 => ?_⟩
          rw [g1] at g3; cases g3
        · have g2 := hf.map k es cl g1 ((h1 i hi').2 k es cl hk g1) hn
          refine ⟨by rw [g1]; exact g2.1, fun es' cl' g3 => ?_⟩
          rw [g1] at g3; cases g3; exact g2.2
      exact ⟨hl.keep (h1 i hi').1 hf.size (fun k hk => (key k hk).1) hZ, fun k es cl hk he => (key k hk).2 es cl ((key k hk).1.symm.trans he)⟩
  · rw [hlen] at ha hb
    have new : ∀ i, i < L.length → i ≠ j → ∀ k, F i k → ¬ S' k := fun i hi hne k hk c => by
      rcases hS k c with c | c
      · exact h2 i j hi hj hne k hk c
      · have := hl.lt (h1 i hi).1 hk; omega
    intro k hka hkb
    by_cases ea : a = j <;> by_cases eb : b = j
    · exact hab (ea.trans eb.symm)
    · simp only [if_pos ea] at hka; simp only [if_neg eb] at hkb; exact new b hb eb k hkb hka
    · simp only [if_neg ea] at hka; simp only [if_pos eb] at hkb; exact new a ha ea k hka hkb
    · simp only [if_neg ea] at hka; simp only [if_neg eb] at hkb; exact h2 a b ha hb hab k hka hkb
/-- An operation more. -/
theorem OPS.push (hl : POLaw OT Q Z P) {wF : World} {o : PO α} {S : Nat → Prop} {v' : Value} (h : OPS OT P w0 w B R q V s x m L v) (hb : Below w.heap.size w wF) (hp : DPS w0 wF B R V' s x m) (hV : ∀ p ∈ V.fm, p ∈ V'.fm) (ho : P wF w.heap.size o S) (hm : MapsIn wF V' S) (hr : w'.ownsRow w0.heap.size OT 2 v' (L.length + 1) (L.flatMap PO.vals ++ o.vals)) (hf : Fr (fun T => T == OT) false wF w') (hB : Below w0.heap.size w0 w') : OPS OT P w0 w' B R q V' s x m (L ++ [o]) v' := by
  have hF := h.below hl hb
  have hlo : w0.heap.size ≤ w.heap.size := h.d.pr.ws.below.size
  have hopw : ∀ T, wrTy T = true → (T == OT) = false := fun T hT => by
    cases hc : (T == OT)
    · rfl
    · rw [beq_iff_eq] at hc; subst hc; rw [hl.ot.1] at hT; cases hT
  have hpt : ((34 : TypeId) == OT) = false := beq_eq_false_iff_ne.2 fun c => hl.ot.2 c.symm
  have hq : ∀ T, Q T = true → (T == OT) = false := fun T hT => beq_eq_false_iff_ne.2 (hl.q T hT).2.2.1
  have hz : ∀ T, Z T = true → (T == OT) = false := fun T hT => beq_eq_false_iff_ne.2 (hl.z T hT).2
  obtain ⟨F, h1, h2⟩ := hF.ops
  obtain ⟨F0, g1, g2⟩ := h.ops
  have stay : ∀ {o2 : PO α} {lo : Nat} {S2 : Nat → Prop}, P wF lo o2 S2 → (∀ k, S2 k → w'.heap[k]? = wF.heap[k]?) := fun ho2 k hk => by
    rcases hl.blk ho2 hk with ⟨cs, T, fr, e1, e2⟩ | ⟨es, cl, e1⟩
    · rw [e1]; exact hf.cells _ _ _ _ e1 (hq T e2)
    · rw [e1]; exact hf.map rfl _ _ _ e1
  refine ⟨⟨⟨hp.pr.ws.fr hf (fun T hT => hopw T (by unfold wrTy; rw [hT]; rfl)) hB, hp.pr.rd.fr hf (fun T hT => hopw T (by unfold wrTy; rw [hT]; simp)) hB, hp.pr.al⟩, hp.far, hp.cok, hp.nn, hp.ni, hp.st, hp.nk⟩, hf.cells _ _ _ _ hF.pq hpt, ?_, fun i => if i = L.length then S else F0 i, fun i hi => ?_, fun a b ha hb2 hab => ?_⟩
  · rw [List.length_append, List.flatMap_append]; simpa using hr
  · simp only [List.length_append, List.length_singleton] at hi
    by_cases e : i = L.length
    · subst e
      simp only [if_true]
      rw [List.getElem_append_right (Nat.le_refl _)]
      simp only [Nat.sub_self, List.getElem_cons_zero]
      exact ⟨hl.lower (hl.keep ho hf.size (stay ho) (zkeep_fr hf hz)) hlo, fun k es cl hk he => hm k es cl hk ((stay ho k hk).symm.trans he)⟩
    · have hi' : i < L.length := by omega
      simp only [if_neg e]
      rw [List.getElem_append_left hi']
      have p1 := hl.below (g1 i hi').1 hb
      refine ⟨hl.keep p1 hf.size (stay p1) (zkeep_fr hf hz), fun k es cl hk he => hV _ ((g1 i hi').2 k es cl hk ?_)⟩
      exact (hb.block k (hl.lt (g1 i hi').1 hk)).symm.trans ((stay p1 k hk).symm.trans he)
  · simp only [List.length_append, List.length_singleton] at ha hb2
    have old : ∀ i, i < L.length → ∀ k, F0 i k → ¬ S k := fun i hi k hk c => by
      have e1 := hl.lt (g1 i hi).1 hk
      have e2 := hl.lo ho c
      omega
    intro k hka hkb
    by_cases ea : a = L.length <;> by_cases eb : b = L.length
    · exact hab (ea.trans eb.symm)
    · simp only [if_pos ea] at hka; simp only [if_neg eb] at hkb; exact old b (by omega) k hkb hka
    · simp only [if_neg ea] at hka; simp only [if_pos eb] at hkb; exact old a (by omega) k hka hkb
    · simp only [if_neg ea] at hka; simp only [if_neg eb] at hkb; exact g2 a b (by omega) (by omega) hab k hka hkb
theorem ovals_at (L : List (PO α)) (k : Nat) (hk : k < L.length) (j : Nat) (hj : j < 2) : (L.flatMap PO.vals)[k * 2 + j]? = ((L[k]).vals)[j]? := by
  induction L generalizing k with
  | nil => simp at hk
  | cons a L ih =>
    rw [List.flatMap_cons]
    cases k with
    | zero => rw [List.getElem?_append_left (by unfold PO.vals; simp; omega)]; simp
    | succ k =>
      rw [List.getElem?_append_right (by unfold PO.vals; simp; omega)]
      have := ih k (by simpa using hk)
      simp only [List.getElem_cons_succ]
      rw [← this]; congr 1; unfold PO.vals; simp; omega
theorem OPS.at (h : OPS OT P w0 w B R q V s x m L v) (k : Nat) (hk : k < L.length) : ∃ g cap, v = .slice (some ⟨g, 0, none⟩) L.length cap ∧ w.cell? ⟨g, k * 2, none⟩ = some (.pointer (some ⟨(L[k]).pb, 0, none⟩)) ∧ w.cell? ⟨g, k * 2 + 1, none⟩ = some (.pointer (some ⟨(L[k]).rb, 0, none⟩)) := by
  obtain ⟨h1, ⟨h2, h0⟩ | ⟨g, cap', cur, hv, hb, hg, hn, hm, hs, ht⟩⟩ := h.row
  · omega
  · have key : ∀ j, j < 2 → w.cell? ⟨g, k * 2 + j, none⟩ = ((L[k]).vals)[j]? := fun j hj => by
      rw [hcell hg, ← ovals_at L k hk j hj, ← ht, List.getElem?_take, if_pos (by omega)]; simp
    exact ⟨g, cap', hv, key 0 (by omega), key 1 (by omega)⟩
end
end Go.Proofs.YtmakjfeepmiggaaGreat
