import Derived.Test.YtmakjfeepmiggaaGreatZ7
import Derived.Test.YtmakjfeepmiggaaGreatZ6
import Derived.Test.YtmakjfeepmiggaaGreatRows
import Derived.Test.YtmakjfeepmiggaaGreatB1
import Derived.Shelf.SlSortCmp.WholeK
namespace Go.Proofs.YtmakjfeepmiggaaGreat
open Go.RowKit Go.Maps
set_option linter.unusedVariables false
theorem own_sl {w : World} {base e size n : Nat} {v : Value} {xs : List Value} (h : w.ownsRow base e size v n xs) : ∃ a cap, v = .slice a n cap := by
  obtain ⟨h1, ⟨rfl, rfl⟩ | ⟨g, cap, cur, hv, r⟩⟩ := h
  · exact ⟨_, _, rfl⟩
  · exact ⟨_, _, hv⟩
theorem notes_any {w : World} {base nb TN : Nat} {l : List Nte} (h : NL w base nb 286 TN .u8 l) : ∃ a cap, w.cell? ⟨nb, 0, none⟩ = some (.slice a l.length cap) ∧ Calls Tryz.prog 140 #[.pointer (some ⟨nb, 0, none⟩)] w fun e w' => e = .returned (.slice a l.length cap) ∧ w' = w := by
  obtain ⟨v, h1, h2, h3⟩ := h
  obtain ⟨a, cap, rfl⟩ := own_sl h3
  have c0 : w.cell? ⟨nb, 0, none⟩ = some (.slice a l.length cap) := hcell h1 0
  refine ⟨a, cap, c0, ?_⟩
  clear h1 h2 h3
  go_enter Tryz.func140, Tryz.ntmps140
  go_wp2
  go_ret
  exact ⟨rfl, rfl⟩
theorem ncount_any {w : World} {base nb TN : Nat} {l : List Nte} (h : NL w base nb 286 TN .u8 l) : Calls Tryz.prog 70 #[.pointer (some ⟨nb, 0, none⟩)] w fun e w' => e = .returned (.int .i64 l.length) ∧ w' = w := by
  obtain ⟨a, cap, -, hn⟩ := notes_any h
  clear h
  go_enter Tryz.func70, Tryz.ntmps70
  go_wp2_with (go_at_call 140; refine hn.mono ?_; rintro e w' ⟨rfl, rfl⟩)
  go_ret
  exact ⟨rfl, rfl⟩
section
variable {w0 w : World} {B R : WB} {V : WV} {s : CS} {x : RS}
theorem WS.last (h : WS w0 w B V s) : Calls Tryz.prog 69 #[.pointer (some ⟨B.cb, 0, none⟩)] w fun e w' => e = .returned (.agg #[.int .u8 s.kind, .int .u64 s.addr, .int .u64 s.was, .int .u64 s.is]) ∧ Below w.heap.size w w' := by
  obtain ⟨⟨S, hS⟩, hB⟩ := h.own
  exact last_any w _ B.cb s S hS
theorem WS.icount (h : WS w0 w B V s) : Calls Tryz.prog 71 #[.pointer (some ⟨B.ib, 0, none⟩)] w fun e w' => e = .returned (.int .i64 V.its.length) ∧ w = w' := by
  obtain ⟨S, hS⟩ := h.ar
  exact count_arena _ _ _ S w hS
theorem RD.icount (h : RD w0 w R V x) : Calls Tryz.prog 72 #[.pointer (some ⟨R.ib, 0, none⟩)] w fun e w' => e = .returned (.int .i64 V.its.length) ∧ w = w' := by
  obtain ⟨S, hS⟩ := h.ar
  exact rcount_arena _ _ _ S w hS
theorem WS.hd (h : WS w0 w B V s) : w.cell? ⟨B.wb, 0, none⟩ = some (.pointer (some ⟨B.cb, 0, none⟩)) ∧ w.cell? ⟨B.wb, 1, none⟩ = some (.pointer (some ⟨B.ib, 0, none⟩)) ∧ w.cell? ⟨B.wb, 2, none⟩ = some (.pointer (some ⟨B.nb, 0, none⟩)) ∧ w.cell? ⟨B.wb, 72, none⟩ = some (.int .i64 V.hd) :=
  ⟨h.c0, (h.cell 1).trans (val_at B V h.tkl).2.1, (h.cell 2).trans (val_at B V h.tkl).2.2.1, (h.cell 72).trans (val_at B V h.tkl).2.2.2.2.2⟩
theorem RD.hd (h : RD w0 w R V x) : w.cell? ⟨R.wb, 0, none⟩ = some (.pointer (some ⟨R.cb, 0, none⟩)) ∧ w.cell? ⟨R.wb, 1, none⟩ = some (.pointer (some ⟨R.ib, 0, none⟩)) ∧ w.cell? ⟨R.wb, 2, none⟩ = some (.pointer (some ⟨R.nb, 0, none⟩)) ∧ w.cell? ⟨R.wb, 72, none⟩ = some (.int .i64 V.hd) :=
  ⟨h.c0, (h.cell 1).trans (val_at R V h.tkl).2.1, (h.cell 2).trans (val_at R V h.tkl).2.2.1, (h.cell 72).trans (val_at R V h.tkl).2.2.2.2.2⟩
theorem RD.lastc (h : RD w0 w R V x) : w.cell? ⟨R.cb, 2, none⟩ = some (.int .u8 x.kind) ∧ w.cell? ⟨R.cb, 3, none⟩ = some (.int .u64 x.addr) ∧ w.cell? ⟨R.cb, 4, none⟩ = some (.int .u64 x.was) ∧ w.cell? ⟨R.cb, 5, none⟩ = some (.int .u64 x.is) := by
  obtain ⟨lv, hr⟩ := h.ref
  exact ⟨hr.cell 2, hr.cell 3, hr.cell 4, hr.cell 5⟩
set_option maxRecDepth 10000 in
set_option maxHeartbeats 2000000 in
theorem psame_any (h : Pr w0 w B R V s x) : Calls Tryz.prog 16 #[.agg #[.pointer (some ⟨B.wb, 0, none⟩), .pointer (some ⟨R.wb, 0, none⟩)]] w fun e w' => e = .returned (.bool true) ∧ Below w.heap.size w w' := by
  have hq0 := heap_alloc_new w (.cells #[.pointer (some ⟨B.wb, 0, none⟩), .pointer (some ⟨R.wb, 0, none⟩)] 34)
  have hB1 := below_alloc w (.cells #[.pointer (some ⟨B.wb, 0, none⟩), .pointer (some ⟨R.wb, 0, none⟩)] 34)
  have H1 := Lib.hid (h.keep hB1); have HQ := Lib.hid hq0; have HB1 := Lib.hid hB1
  have hal := h.al
  have htq := tick_eq V.tk V.tk h.ws.tkl h.ws.tkl
  rw [show (V.tk == V.tk) = true from beq_self_eq_true _] at htq
  have HTQ := Lib.hid htq
  clear h hq0 hB1 htq
  go_enter Tryz.func16, Tryz.ntmps16
  go_upto_region 1 with (fail)
  change Code.wp _ _ _ _ (w.alloc (.cells #[.pointer (some ⟨B.wb, 0, none⟩), .pointer (some ⟨R.wb, 0, none⟩)] 34))
  generalize w.alloc (.cells #[.pointer (some ⟨B.wb, 0, none⟩), .pointer (some ⟨R.wb, 0, none⟩)] 34) = w1 at *
  have p0 : w1.cell? ⟨w.heap.size, 0, none⟩ = some (.pointer (some ⟨B.wb, 0, none⟩)) := hcell HQ.out 0
  have p1 : w1.cell? ⟨w.heap.size, 1, none⟩ = some (.pointer (some ⟨R.wb, 0, none⟩)) := hcell HQ.out 1
  have HAL := Lib.hid hal
  clear hal
  go_upto_region 3 with (fail)
  have q0 := fun st : ExtW w1 => st.cell p0
  have q1 := fun st : ExtW w1 => st.cell p1
  obtain ⟨c0, c1, c2, c72⟩ := H1.out.ws.hd
  obtain ⟨r0, r1, r2, r72⟩ := H1.out.rd.hd
  obtain ⟨l2, l3, l4, l5⟩ := H1.out.rd.lastc
  rw [← HAL.out.kind] at l2; rw [← HAL.out.addr] at l3; rw [← HAL.out.was] at l4; rw [← HAL.out.is] at l5
  obtain ⟨nv, hn1, hn2, hn3⟩ := H1.out.rd.nt
  obtain ⟨na, ncap, hnv⟩ := own_sl hn3
  subst hnv
  have n0 : w1.cell? ⟨R.nb, 0, none⟩ = some (.slice na V.nts.length ncap) := hcell hn1 0
  have d0 := fun st : ExtW w1 => st.cell c0
  have d1 := fun st : ExtW w1 => st.cell c1
  have d2 := fun st : ExtW w1 => st.cell c2
  have d3 := fun st : ExtW w1 => st.cell c72
  have g0 := fun st : ExtW w1 => st.cell r0
  have g1 := fun st : ExtW w1 => st.cell r1
  have g2 := fun st : ExtW w1 => st.cell r2
  have g3 := fun st : ExtW w1 => st.cell r72
  have k2 := fun st : ExtW w1 => st.cell l2
  have k3 := fun st : ExtW w1 => st.cell l3
  have k4 := fun st : ExtW w1 => st.cell l4
  have k5 := fun st : ExtW w1 => st.cell l5
  have m0 := fun st : ExtW w1 => st.cell n0
  have hs1 := fun st : ExtW w1 => (steps_any (H1.out.keep st.below).ws.wld).mono fun e w' (h : _ ∧ _) => And.intro h.1 h.2.symm
  have hs2 := fun st : ExtW w1 => (rwsteps (H1.out.keep st.below).rd).mono fun e w' (h : _ ∧ _) => And.intro h.1 h.2.symm
  rw [← HAL.out.cnt] at hs2
  have hls := fun st : ExtW w1 => (H1.out.keep st.below).ws.last
  have hnc := fun st : ExtW w1 => (ncount_any (H1.out.keep st.below).ws.nt).mono fun e w' (h : _ ∧ _) => And.intro h.1 h.2.symm
  have hic := fun st : ExtW w1 => (H1.out.keep st.below).ws.icount
  have hri := fun st : ExtW w1 => (H1.out.keep st.below).rd.icount
  have ht1 := fun st : ExtW w1 => tk_load (H1.out.keep st.below).ws.blk (H1.out.keep st.below).ws.tkl
  have ht2 := fun st : ExtW w1 => tk_load (H1.out.keep st.below).rd.blk (H1.out.keep st.below).rd.tkl
  have htq := fun W => HTQ.out W
  clear p0 p1 c0 c1 c2 c72 r0 r1 r2 r72 l2 l3 l4 l5 n0 hn1 hn2 hn3
  simp only [List.append_eq, List.cons_append, List.nil_append]
  refine wp_region_ext (by kernel_rfl) (by kernel_rfl) ?_
  repeat (go_big_quiet_step (first
    | (go_at_call 67; with_reducible refine calls_ext_same (hs1 _))
    | (go_at_call 68; with_reducible refine calls_ext_same (hs2 _))
    | (go_at_call 69; with_reducible refine calls_ext (hls _))
    | (go_at_call 70; with_reducible refine calls_ext_same (hnc _))
    | (go_at_call 71; with_reducible refine calls_ext_same (hic _))
    | (go_at_call 72; with_reducible refine calls_ext_same (hri _))))
  go_big_quiet_want
  refine quiet_load 115 _ rfl _ (.agg (tkV V.tk).toArray) rfl (fun W hW => ?_) ?_
  · obtain ⟨st, rfl⟩ := hW
    exact ht1 st
  go_frame
  go_big_quiet_on
  repeat (go_big_quiet_step (fail))
  go_big_quiet_want
  refine quiet_load 115 _ rfl _ (.agg (tkV V.tk).toArray) rfl (fun W hW => ?_) ?_
  · obtain ⟨st, rfl⟩ := hW
    exact ht2 st
  go_frame
  go_big_quiet_on
  repeat (go_big_quiet_step (fail))
  refine wpQuiet_nil ?_
  rintro W2 ⟨⟨W3, hW⟩, rfl⟩
  clear q0 q1 d0 d1 d2 d3 g0 g1 g2 g3 k2 k3 k4 k5 m0 hs1 hs2 hls hnc hic hri ht1 ht2 htq
  go_wp2
  go_ret
  exact ⟨rfl, HB1.out.trans (hW.mono HB1.out.size)⟩
end
end Go.Proofs.YtmakjfeepmiggaaGreat
namespace Go.Proofs.YtmakjfeepmiggaaGreat
open Go.Shelf
def sortW_ren : Go.Shelf.Ren := ⟨fun | 6 => 183 | 15 => 220 | 14 => 219 | 28 => 238 | 29 => 239 | 20 => 230 | 21 => 231 | 22 => 232 | 23 => 233 | 24 => 234 | 25 => 235 | 26 => 236 | 27 => 237 | 46 => 243 | 47 => 244 | 48 => 245 | 49 => 246 | 50 => 247 | 57 => 253 | n => n, fun | 22 => 243 | 24 => 226 | 25 => 297 | 3 => 3 | 39 => 263 | 0 => 0 | 53 => 78 | 55 => 38 | 4 => 4 | 46 => 337 | 45 => 336 | 50 => 341 | 5 => 5 | 9 => 9 | 66 => 345 | 70 => 348 | 76 => 355 | 77 => 254 | n => n, fun | n => n⟩
theorem sortW : Go.Proofs.SlLaysF0.n6 Tryz.prog sortW_ren := {
  mixed := by kernel_rfl
  f6 := ⟨Tryz.f183.name, by decide, Tryz.func183.trans (congrArg some (by kernel_rfl))⟩
  f14 := ⟨Tryz.f219.name, by decide, Tryz.func219.trans (congrArg some (by kernel_rfl))⟩
  f15 := Tryz.func220.trans (congrArg some (by kernel_rfl))
  f20 := ⟨Tryz.f230.name, by decide, Tryz.func230.trans (congrArg some (by kernel_rfl))⟩
  f21 := ⟨Tryz.f231.name, by decide, Tryz.func231.trans (congrArg some (by kernel_rfl))⟩
  f22 := ⟨Tryz.f232.name, by decide, Tryz.func232.trans (congrArg some (by kernel_rfl))⟩
  f23 := ⟨Tryz.f233.name, by decide, Tryz.func233.trans (congrArg some (by kernel_rfl))⟩
  f24 := ⟨Tryz.f234.name, by decide, Tryz.func234.trans (congrArg some (by kernel_rfl))⟩
  f25 := ⟨Tryz.f235.name, by decide, Tryz.func235.trans (congrArg some (by kernel_rfl))⟩
  f26 := ⟨Tryz.f236.name, by decide, Tryz.func236.trans (congrArg some (by kernel_rfl))⟩
  f27 := ⟨Tryz.f237.name, by decide, Tryz.func237.trans (congrArg some (by kernel_rfl))⟩
  f28 := Tryz.func238.trans (congrArg some (by kernel_rfl))
  f29 := Tryz.func239.trans (congrArg some (by kernel_rfl))
  f46 := ⟨Tryz.f243.name, by decide, Tryz.func243.trans (congrArg some (by kernel_rfl))⟩
  f47 := Tryz.func244.trans (congrArg some (by kernel_rfl))
  f48 := Tryz.func245.trans (congrArg some (by kernel_rfl))
  f49 := ⟨Tryz.f246.name, by decide, Tryz.func246.trans (congrArg some (by kernel_rfl))⟩
  f50 := ⟨Tryz.f247.name, by decide, Tryz.func247.trans (congrArg some (by kernel_rfl))⟩
  f57 := ⟨Tryz.f253.name, by decide, Tryz.func253.trans (congrArg some (by kernel_rfl))⟩
  t0 := Tryz.underlying0
  a0 := Tryz.isAgg0
  z0 := Tryz.sizeOf0
  v0 := Tryz.zeroValue0
  t3 := Tryz.underlying3
  a3 := Tryz.isAgg3
  z3 := Tryz.sizeOf3
  v3 := Tryz.zeroValue3
  t4 := Tryz.underlying4
  a4 := Tryz.isAgg4
  z4 := Tryz.sizeOf4
  v4 := Tryz.zeroValue4
  t5 := Tryz.underlying5
  a5 := Tryz.isAgg5
  z5 := Tryz.sizeOf5
  v5 := Tryz.zeroValue5
  t9 := Tryz.underlying9
  a9 := Tryz.isAgg9
  z9 := Tryz.sizeOf9
  v9 := Tryz.zeroValue9
  t22 := Tryz.underlying243
  a22 := Tryz.isAgg243
  z22 := Tryz.sizeOf243
  v22 := Tryz.zeroValue243
  t25 := Tryz.underlying297
  a25 := Tryz.isAgg297
  z25 := Tryz.sizeOf297
  v25 := Tryz.zeroValue297
  t39 := Tryz.underlying263
  a39 := Tryz.isAgg263
  z39 := Tryz.sizeOf263
  v39 := Tryz.zeroValue263
  t45 := Tryz.underlying336
  a45 := Tryz.isAgg336
  z45 := Tryz.sizeOf336
  v45 := Tryz.zeroValue336
  t46 := Tryz.underlying337
  a46 := Tryz.isAgg337
  z46 := Tryz.sizeOf337
  v46 := Tryz.zeroValue337
  t50 := Tryz.underlying341
  a50 := Tryz.isAgg341
  z50 := Tryz.sizeOf341
  v50 := Tryz.zeroValue341
  t53 := Tryz.underlying78
  a53 := Tryz.isAgg78
  z53 := Tryz.sizeOf78
  v53 := Tryz.zeroValue78
  t55 := Tryz.underlying38
  a55 := Tryz.isAgg38
  z55 := Tryz.sizeOf38
  v55 := Tryz.zeroValue38
  t66 := Tryz.underlying345
  a66 := Tryz.isAgg345
  z66 := Tryz.sizeOf345
  v66 := Tryz.zeroValue345
  t70 := Tryz.underlying348
  a70 := Tryz.isAgg348
  z70 := Tryz.sizeOf348
  v70 := Tryz.zeroValue348
  t76 := Tryz.underlying355
  a76 := Tryz.isAgg355
  z76 := Tryz.sizeOf355
  v76 := Tryz.zeroValue355
  t77 := Tryz.underlying254
  a77 := Tryz.isAgg254
  z77 := Tryz.sizeOf254
  v77 := Tryz.zeroValue254 }
end Go.Proofs.YtmakjfeepmiggaaGreat
namespace Go.Proofs.YtmakjfeepmiggaaGreat
open Go.RowKit Go.Shelf Go.Lib Go.Sort
set_option linter.unusedVariables false
theorem isnan_any (a : Int) (w : World) : Calls Tryz.prog 221 #[.int .u64 a] w fun e w' => e = .returned (.bool false) ∧ w' = w := by
  go_enter Tryz.func221, Tryz.ntmps221
  go_wp2
  go_ret
  exact ⟨rfl, rfl⟩
theorem cmp_any (a b : Int) (w : World) : Calls Tryz.prog 185 #[.int .u64 a, .int .u64 b] w fun e w' => e = .returned (.int .i64 (Lib.compareInt a b)) ∧ w' = w := by
  unfold Lib.compareInt
  by_cases h1 : a < b
  · rw [if_pos h1]
    go_enter Tryz.func185, Tryz.ntmps185
    go_wp2_with (go_at_call 221; refine (isnan_any _ _).mono ?_; rintro e w1 ⟨rfl, rfl⟩)
    go_ret
    exact ⟨rfl, rfl⟩
  · rw [if_neg h1]
    by_cases h2 : b < a
    · rw [if_pos h2]
      go_enter Tryz.func185, Tryz.ntmps185
      go_wp2_with (go_at_call 221; refine (isnan_any _ _).mono ?_; rintro e w1 ⟨rfl, rfl⟩)
      go_ret
      exact ⟨rfl, rfl⟩
    · rw [if_neg h2]
      go_enter Tryz.func185, Tryz.ntmps185
      go_wp2_with (go_at_call 221; refine (isnan_any _ _).mono ?_; rintro e w1 ⟨rfl, rfl⟩)
      go_ret
      exact ⟨rfl, rfl⟩
def encW (x : Int × Int) : List Value := [.int .u64 x.1, .int .u64 x.2]
def cmpW (x y : Int × Int) : Int := Lib.compareInt x.1 y.1
theorem closure_any (x y : Int × Int) (W : World) : Calls Tryz.prog 184 #[.agg #[.int .u64 x.1, .int .u64 x.2], .agg #[.int .u64 y.1, .int .u64 y.2]] W fun e w' => e = .returned (.int .i64 (cmpW x y)) ∧ ∃ q os', w' = grow (W.drewN q) os' := by
  have hcon := fun W' => cmp_any x.1 y.1 W'
  unfold cmpW
  generalize Lib.compareInt x.1 y.1 = r at hcon ⊢
  go_enter Tryz.func184, Tryz.ntmps184
  go_wp2_with (go_at_call 185; refine (hcon _).mono ?_; rintro e w' ⟨rfl, rfl⟩)
  go_ret
  exact ⟨rfl, 0, _, by rw [alloc_eq_grow, alloc_eq_grow, grow_grow]; rfl⟩
theorem cmpLaysW (blk off size : Nat) (w : World) : CmpLays Tryz.prog 184 #[] encW 2 cmpW blk off size w := fun _ _ _ _ x y => closure_any x y _
theorem ltW (x y : Int × Int) : ltOf cmpW x y = decide (x.1 < y.1) := by
  unfold ltOf cmpW Lib.compareInt
  by_cases h1 : x.1 < y.1
  · simp [h1]
  · by_cases h2 : y.1 < x.1 <;> simp [h1, h2]
theorem swoW : SWO (ltOf cmpW) where
  irrefl x := by rw [ltW]; simp
  trans x y z h1 h2 := by rw [ltW] at *; simp at *; omega
  ntrans x y z h1 h2 := by rw [ltW] at *; simp at *; omega
theorem sort_any (blk off cap : Nat) (d : Array (Int × Int)) (w : World) (hH : HoldsK encW 2 w blk off d) (hblk : blk < w.heap.size) (hsz : d.size < 4611686018427387904) :
    Calls Tryz.prog 183 #[.slice (some ⟨blk, off, none⟩) d.size cap, .func (.func 184) #[] #[]] w fun e w' => e = .returned (.tuple #[]) ∧ ∃ d' n os, PermIn 0 d.size d d' ∧ SortedIn (ltOf cmpW) 0 d.size d' ∧ w' = sortWorldK encW 2 w blk off n d' os := by
  have eg : ∀ args w, (callFunc 184 args).run Tryz.prog w = .ok (.enter 184 args) w := fun args w => by kernel_rfl
  exact AnyQ.slices_SortFunc sortW 2 Tryz.isAgg226 Tryz.sizeOf226 encW (fun _ => rfl) (fun x v hv => by simp [encW] at hv; rcases hv with rfl | rfl <;> rfl) cmpW swoW 184 #[] blk off cap d w eg (cmpLaysW blk off d.size w) hH hblk hsz
end Go.Proofs.YtmakjfeepmiggaaGreat