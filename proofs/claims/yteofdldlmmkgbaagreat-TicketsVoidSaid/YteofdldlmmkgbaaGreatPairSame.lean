/-
  Pair.Same: both are as far.
-/
import Derived.Test.YteofdldlmmkgbaaGreatArr
import Derived.Test.YteofdldlmmkgbaaGreatPairPut
namespace Go.Proofs.YteofdldlmmkgbaaGreat
open Go.RowKit Go.Maps
set_option linter.unusedVariables false

theorem own_sl {w : World} {base e size n : Nat} {v : Value} {xs : List Value} (h : w.ownsRow base e size v n xs) : ∃ a cap, v = .slice a n cap := by
  obtain ⟨h1, ⟨rfl, rfl⟩ | ⟨g, cap, cur, hv, r⟩⟩ := h
  · exact ⟨_, _, rfl⟩
  · exact ⟨_, _, hv⟩
theorem notes_any {w : World} {base nb TN : Nat} {l : List Nte} (h : NL w base nb 278 TN .u8 l) : ∃ a cap, w.cell? ⟨nb, 0, none⟩ = some (.slice a l.length cap) ∧ Calls Tryz.prog 145 #[.pointer (some ⟨nb, 0, none⟩)] w fun e w' => e = .returned (.slice a l.length cap) ∧ w' = w := by
  obtain ⟨v, h1, h2, h3⟩ := h
  obtain ⟨a, cap, rfl⟩ := own_sl h3
  have c0 : w.cell? ⟨nb, 0, none⟩ = some (.slice a l.length cap) := hcell h1 0
  refine ⟨a, cap, c0, ?_⟩
  clear h1 h2 h3
  go_enter Tryz.func145, Tryz.ntmps145
  go_wp2
  go_ret
  exact ⟨rfl, rfl⟩
theorem ncount_any {w : World} {base nb TN : Nat} {l : List Nte} (h : NL w base nb 278 TN .u8 l) : Calls Tryz.prog 87 #[.pointer (some ⟨nb, 0, none⟩)] w fun e w' => e = .returned (.int .i64 l.length) ∧ w' = w := by
  obtain ⟨a, cap, -, hn⟩ := notes_any h
  clear h
  go_enter Tryz.func87, Tryz.ntmps87
  go_wp2_with (go_at_call 145; refine hn.mono ?_; rintro e w' ⟨rfl, rfl⟩)
  go_ret
  exact ⟨rfl, rfl⟩
section
variable {w0 w : World} {B R : WB} {V : WV} {s : CS} {x : RS}
theorem WS.last (h : WS w0 w B V s) : Calls Tryz.prog 86 #[.pointer (some ⟨B.cb, 0, none⟩)] w fun e w' => e = .returned (.agg #[.int .u8 s.kind, .int .u64 s.addr, .int .u64 s.was, .int .u64 s.is]) ∧ Below w.heap.size w w' := by
  obtain ⟨⟨S, hS⟩, hB⟩ := h.own
  exact last_any w _ B.cb s S hS
theorem WS.icount (h : WS w0 w B V s) : Calls Tryz.prog 88 #[.pointer (some ⟨B.ib, 0, none⟩)] w fun e w' => e = .returned (.int .i64 V.its.length) ∧ w = w' := by
  obtain ⟨S, hS⟩ := h.ar
  exact count_arena _ _ _ S w hS
theorem RD.icount (h : RD w0 w R V x) : Calls Tryz.prog 75 #[.pointer (some ⟨R.ib, 0, none⟩)] w fun e w' => e = .returned (.int .i64 V.its.length) ∧ w = w' := by
  obtain ⟨S, hS⟩ := h.ar
  exact rcount_arena _ _ _ S w hS
theorem WS.hd (h : WS w0 w B V s) : w.cell? ⟨B.wb, 0, none⟩ = some (.pointer (some ⟨B.cb, 0, none⟩)) ∧ w.cell? ⟨B.wb, 1, none⟩ = some (.pointer (some ⟨B.ib, 0, none⟩)) ∧ w.cell? ⟨B.wb, 2, none⟩ = some (.pointer (some ⟨B.nb, 0, none⟩)) ∧ w.cell? ⟨B.wb, 72, none⟩ = some (.int .i64 V.hd) :=
  ⟨h.c0, (h.cell 1).trans (val_at B V h.tkl).2.1, (h.cell 2).trans (val_at B V h.tkl).2.2.1, (h.cell 72).trans (val_at B V h.tkl).2.2.2.2.2⟩
theorem RD.hd (h : RD w0 w R V x) : w.cell? ⟨R.wb, 0, none⟩ = some (.pointer (some ⟨R.cb, 0, none⟩)) ∧ w.cell? ⟨R.wb, 1, none⟩ = some (.pointer (some ⟨R.ib, 0, none⟩)) ∧ w.cell? ⟨R.wb, 2, none⟩ = some (.pointer (some ⟨R.nb, 0, none⟩)) ∧ w.cell? ⟨R.wb, 72, none⟩ = some (.int .i64 V.hd) :=
  ⟨h.c0, (h.cell 1).trans (val_at R V h.tkl).2.1, (h.cell 2).trans (val_at R V h.tkl).2.2.1, (h.cell 72).trans (val_at R V h.tkl).2.2.2.2.2⟩
theorem RD.lastc (h : RD w0 w R V x) : w.cell? ⟨R.cb, 2, none⟩ = some (.int .u8 x.kind) ∧ w.cell? ⟨R.cb, 3, none⟩ = some (.int .u64 x.addr) ∧ w.cell? ⟨R.cb, 4, none⟩ = some (.int .u64 x.was) ∧ w.cell? ⟨R.cb, 5, none⟩ = some (.int .u64 x.is) := by
  obtain ⟨lv, hr⟩ := h.ref
  exact ⟨hr.cell 2, hr.cell 3, hr.cell 4, hr.cell 5⟩
set_option maxRecDepth 10000 in
set_option maxHeartbeats 2000000 in
theorem psame_any (h : Pr w0 w B R V s x) : Calls Tryz.prog 17 #[.agg #[.pointer (some ⟨B.wb, 0, none⟩), .pointer (some ⟨R.wb, 0, none⟩)]] w fun e w' => e = .returned (.bool true) ∧ Below w.heap.size w w' := by
  have hq0 := heap_alloc_new w (.cells #[.pointer (some ⟨B.wb, 0, none⟩), .pointer (some ⟨R.wb, 0, none⟩)] 34)
  have hB1 := below_alloc w (.cells #[.pointer (some ⟨B.wb, 0, none⟩), .pointer (some ⟨R.wb, 0, none⟩)] 34)
  have H1 := Lib.hid (h.keep hB1); have HQ := Lib.hid hq0; have HB1 := Lib.hid hB1
  have hal := h.al
  have htq := tick_eq V.tk V.tk h.ws.tkl h.ws.tkl
  rw [show (V.tk == V.tk) = true from beq_self_eq_true _] at htq
  have HTQ := Lib.hid htq
  clear h hq0 hB1 htq
  go_enter Tryz.func17, Tryz.ntmps17
  go_upto_region 1 with (fail)
  change Code.wp _ _ _ _ (w.alloc (.cells #[.pointer (some ⟨B.wb, 0, none⟩), .pointer (some ⟨R.wb, 0, none⟩)] 34))
  generalize w.alloc (.cells #[.pointer (some ⟨B.wb, 0, none⟩), .pointer (some ⟨R.wb, 0, none⟩)] 34) = w1 at *
  have p0 : w1.cell? ⟨w.heap.size, 0, none⟩ = some (.pointer (some ⟨B.wb, 0, none⟩)) := hcell HQ.out 0
  have p1 : w1.cell? ⟨w.heap.size, 1, none⟩ = some (.pointer (some ⟨R.wb, 0, none⟩)) := hcell HQ.out 1
  have HAL := Lib.hid hal
  clear hal
  go_upto_region 3 with (fail)
  have q0 := fun st : ExtW w1 => st.cell p0
  have q1 := fun st : ExtW w1 => st.cell p1
  obtain ⟨c0, c1, c2, c72⟩ := H1.out.ws.hd
  obtain ⟨r0, r1, r2, r72⟩ := H1.out.rd.hd
  obtain ⟨l2, l3, l4, l5⟩ := H1.out.rd.lastc
  rw [← HAL.out.kind] at l2; rw [← HAL.out.addr] at l3; rw [← HAL.out.was] at l4; rw [← HAL.out.is] at l5
  obtain ⟨nv, hn1, hn2, hn3⟩ := H1.out.rd.nt
  obtain ⟨na, ncap, hnv⟩ := own_sl hn3
  subst hnv
  have n0 : w1.cell? ⟨R.nb, 0, none⟩ = some (.slice na V.nts.length ncap) := hcell hn1 0
  have d0 := fun st : ExtW w1 => st.cell c0
  have d1 := fun st : ExtW w1 => st.cell c1
  have d2 := fun st : ExtW w1 => st.cell c2
  have d3 := fun st : ExtW w1 => st.cell c72
  have g0 := fun st : ExtW w1 => st.cell r0
  have g1 := fun st : ExtW w1 => st.cell r1
  have g2 := fun st : ExtW w1 => st.cell r2
  have g3 := fun st : ExtW w1 => st.cell r72
  have k2 := fun st : ExtW w1 => st.cell l2
  have k3 := fun st : ExtW w1 => st.cell l3
  have k4 := fun st : ExtW w1 => st.cell l4
  have k5 := fun st : ExtW w1 => st.cell l5
  have m0 := fun st : ExtW w1 => st.cell n0
  have hs1 := fun st : ExtW w1 => (steps_any (H1.out.keep st.below).ws.wld).mono fun e w' (h : _ ∧ _) => And.intro h.1 h.2.symm
  have hs2 := fun st : ExtW w1 => (rwsteps (H1.out.keep st.below).rd).mono fun e w' (h : _ ∧ _) => And.intro h.1 h.2.symm
  rw [← HAL.out.cnt] at hs2
  have hls := fun st : ExtW w1 => (H1.out.keep st.below).ws.last
  have hnc := fun st : ExtW w1 => (ncount_any (H1.out.keep st.below).ws.nt).mono fun e w' (h : _ ∧ _) => And.intro h.1 h.2.symm
  have hic := fun st : ExtW w1 => (H1.out.keep st.below).ws.icount
  have hri := fun st : ExtW w1 => (H1.out.keep st.below).rd.icount
  have ht1 := fun st : ExtW w1 => tk_load (H1.out.keep st.below).ws.blk (H1.out.keep st.below).ws.tkl
  have ht2 := fun st : ExtW w1 => tk_load (H1.out.keep st.below).rd.blk (H1.out.keep st.below).rd.tkl
  have htq := fun W => HTQ.out W
  clear p0 p1 c0 c1 c2 c72 r0 r1 r2 r72 l2 l3 l4 l5 n0 hn1 hn2 hn3
  simp only [List.append_eq, List.cons_append, List.nil_append]
  refine wp_region_ext (by kernel_rfl) (by kernel_rfl) ?_
  repeat (go_big_quiet_step (first
    | (go_at_call 64; with_reducible refine calls_ext_same (hs1 _))
    | (go_at_call 85; with_reducible refine calls_ext_same (hs2 _))
    | (go_at_call 86; with_reducible refine calls_ext (hls _))
    | (go_at_call 87; with_reducible refine calls_ext_same (hnc _))
    | (go_at_call 88; with_reducible refine calls_ext_same (hic _))
    | (go_at_call 75; with_reducible refine calls_ext_same (hri _))))
  go_big_quiet_want
  refine quiet_load 129 _ rfl _ (.agg (tkV V.tk).toArray) rfl (fun W hW => ?_) ?_
  · obtain ⟨st, rfl⟩ := hW
    exact ht1 st
  go_frame
  go_big_quiet_on
  repeat (go_big_quiet_step (fail))
  go_big_quiet_want
  refine quiet_load 129 _ rfl _ (.agg (tkV V.tk).toArray) rfl (fun W hW => ?_) ?_
  · obtain ⟨st, rfl⟩ := hW
    exact ht2 st
  go_frame
  go_big_quiet_on
  repeat (go_big_quiet_step (fail))
  refine wpQuiet_nil ?_
  rintro W2 ⟨⟨W3, hW⟩, rfl⟩
  clear q0 q1 d0 d1 d2 d3 g0 g1 g2 g3 k2 k3 k4 k5 m0 hs1 hs2 hls hnc hic hri ht1 ht2 htq
  go_wp2
  go_ret
  exact ⟨rfl, HB1.out.trans (hW.mono HB1.out.size)⟩
end
end Go.Proofs.YteofdldlmmkgbaaGreat
