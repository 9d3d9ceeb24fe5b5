/-
  Texts of this prover, merged: WSteps.
-/
import Derived.Test.YtjfocckdbaaimaaM1
import Derived.Deep.DeepCutAuto
import Derived.Deep.CutBlock
/-
  WorldsSteps. (written by genwsteps.py)
-/
namespace Go.Proofs.Ytjfocckdbaaimaa
open Go.RowKit Go.Maps
set_option linter.unusedVariables false

theorem field_epoch (a b c : Int) (W : World) : (Instr.field 109 (.agg #[.int .i64 a, .int .i64 b, .int .i64 c]) 0).run Try.prog W = .ok (.int .i64 a) W := by kernel_rfl
theorem field_pair (a b : Option Addr) (W : World) : (Instr.field 34 (.agg #[.pointer a, .pointer b]) 0).run Try.prog W = .ok (.pointer a) W := by kernel_rfl
theorem field_acc (a b c d : Int) (W : World) : (Instr.field 72 (.agg #[.int .u8 a, .int .u64 b, .int .u64 c, .int .u64 d]) 1).run Try.prog W = .ok (.int .u64 b) W := by kernel_rfl
set_option maxRecDepth 10000 in
theorem enow_any (x : Int) (hx : (Lit.int .u64 x).wf = true) (w : World) : Calls Try.prog 17 #[.int .u64 x] w fun e w' => e = .returned (.int .i64 (eNow x)) ∧ Below w.heap.size w w' := by
  have hs := said_any x hx w
  have hf := field_epoch
  clear hx
  go_enter Try.func17, Try.ntmps17
  go_wp2_with (go_at_call 40; refine hs.mono ?_; rintro e w1 ⟨rfl, b1⟩)
  go_ret
  exact ⟨rfl, b1⟩
theorem enow_tick (x : Int) (hx : 0 ≤ x ∧ x < 18446744073709551616) : eNow (eTick x) = min (eNow x + 1) 16777215 ∧ 0 ≤ eNow x ∧ eNow x < 16777216 := by
  have hb : 0 ≤ eNow x ∧ eNow x < 16777216 := by unfold eNow; omega
  have hn : eNext x = min (eNow x + 1) 16777215 := by unfold eNext; split <;> omega
  have key : ∀ n a g : Int, 0 ≤ n ∧ n < 16777216 → eNow (eWord n a g) = n := fun n a g h => by unfold eNow eWord; omega
  refine ⟨?_, hb⟩
  rw [← hn]
  have hnb : 0 ≤ eNext x ∧ eNext x < 16777216 := by rw [hn]; omega
  unfold eTick
  split <;> exact key _ _ _ hnb
/-- What stands between two acts. -/
structure WPS (w0 w : World) (B : WB) (V : WV) (s : CS) (hd : Int) (m : Nat) : Prop where
  ws : WS w0 w B V s
  hd : V.hd = hd
  cok : V.c.ok = true
  nn : V.nts.length ≤ m
  ni : V.its.length ≤ 100 + m
  ns : s.n ≤ 300 + m ∧ s.cnt ≤ 300 + m
  st : Nsteps V.nts s.cnt
section
variable {w0 w w' : World} {B : WB} {V V' : WV} {s s' : CS} {hd : Int} {m m' : Nat}
theorem WPS.keep (h : WPS w0 w B V s hd m) (hb : Below w.heap.size w w') : WPS w0 w' B V s hd m := ⟨h.ws.keep hb, h.hd, h.cok, h.nn, h.ni, h.ns, h.st⟩
theorem WPS.le (h : WPS w0 w B V s hd m) (hm : m ≤ m') : WPS w0 w B V s hd m' := ⟨h.ws, h.hd, h.cok, Nat.le_trans h.nn hm, by have := h.ni; omega, by have := h.ns; omega, h.st⟩
theorem WPS.room (h : WPS w0 w B V s hd m) (hm : m ≤ 1000) : s.room := CS.room_of (300 + m) h.ns (by unfold lim; omega)
theorem WPS.acc (h : WPS w0 w B V s hd m) (k a i : Int) (hw : WS w0 w' B V (s.acc k a i)) : WPS w0 w' B V (s.acc k a i) hd (m + 1) :=
  ⟨hw, h.hd, h.cok, Nat.le_succ_of_le h.nn, by have := h.ni; omega, by have := h.ns; simp only [CS.acc]; omega, h.st.le (by simp only [CS.acc]; omega)⟩
theorem conf_budget {c : Conf} (h : c.ok = true) : (1 ≤ c.budget ∧ c.budget ≤ 65536) ∧ (Lit.int .i64 c.budget).wf = true := by
  unfold Conf.ok at h
  simp only [Bool.and_eq_true, decide_eq_true_eq] at h
  have hb := h.1.1.1.2
  have hmin : IntKind.i64.min = -9223372036854775808 := rfl
  have hmax : IntKind.i64.max = 9223372036854775807 := rfl
  exact ⟨hb, by simp only [Lit.wf, Bool.and_eq_true, decide_eq_true_eq]; omega⟩
end
set_option maxRecDepth 100000 in
set_option maxHeartbeats 8000000 in
theorem wsteps_any (f : Fst) (l : List WAc) (al : Option Addr) (capl : Nat) (hd : Int) (w : World) (hr : FstRd w f) (hl : WActs w al capl l) :
    Calls Try.prog 3 #[.agg #[.int .i64 f.c.bits, .int .i64 f.c.budget, .int .i64 f.c.tries, .int .i64 f.c.quantum, .int .i64 f.c.way, .bool f.gr, .slice f.ia f.its.length f.ic, .slice f.pa f.puts.length f.pc, .slice f.sa f.sts.length f.sc, .int .i64 f.ticks], .slice al l.length capl, .int .i64 hd] w
    fun e w' => e = .returned (.bool true) ∧ Below w.heap.size w w' := by
  have hml : l.length ≤ maxLen := Nat.le_trans hl.le hl.most
  unfold maxLen at hml
  have hB := below_alloc w (.cells f.cells 28)
  have z := heap_alloc_new w (.cells f.cells 28)
  have HR := Lib.hid (hr.below hB); have HB := Lib.hid hB; have HZ := Lib.hid z; have HLL := Lib.hid hl
  clear hr hB z hl
  go_enter Try.func3, Try.ntmps3
  go_upto_region 1 with (fail)
  change Code.wp _ _ _ _ (w.alloc (.cells f.cells 28))
  generalize w.alloc (.cells f.cells 28) = w1 at *
  have z := HZ.out
  obtain ⟨e0, e1, e2, e3, e4, e5, e6, e7, e8, e9⟩ := fst_cells z
  clear z
  by_cases h3 : 60 < l.length
  · have d3 : decide ((60 : Int) < l.length) = true := decide_eq_true (by omega)
    clear h3
    go_upto_if 21 with (go_at_call 4; refine (great_any f w1 HR.out).mono ?_; rintro e w2 ⟨g, rfl, b2, hg⟩; have B2 := Lib.hid b2; clear b2 hg e0 e1 e2 e3 e4 e5 e6 e7 e8 e9; cases g)
    all_goals
      go_wp2_with (go_at_call 5; refine (lives10 _).mono ?_; rintro e w3 ⟨rfl, b3⟩)
      go_ret
      have h1 := HB.out.trans (B2.out.mono HB.out.size)
      exact ⟨rfl, h1.trans (b3.mono h1.size)⟩
  have d3 : decide ((60 : Int) < l.length) = false := decide_eq_false (by omega)
  have HL3 : Hid (l.length ≤ 60) := by show l.length ≤ 60; omega
  clear h3
  go_upto_if 21 with (go_at_call 4; refine (great_any f w1 HR.out).mono ?_; rintro e w2 ⟨g, rfl, b2, hg⟩; have B2 := Lib.hid b2; have HG := Lib.hid hg; clear b2 hg e0 e1 e2 e3 e4 e5 e6 e7 e8 e9; cases g)
  rotate_left
  · go_wp2_with (go_at_call 5; refine (lives10 _).mono ?_; rintro e w3 ⟨rfl, b3⟩)
    go_ret
    have h1 := HB.out.trans (B2.out.mono HB.out.size)
    exact ⟨rfl, h1.trans (b3.mono h1.size)⟩
  obtain ⟨hin, hsz⟩ := HG.out trivial
  have HIN := Lib.hid (hin.below B2.out)
  have hitl : f.its.length ≤ 40 := hin.ni
  have HBB : Hid (Below w.heap.size w w2) := HB.out.trans (B2.out.mono HB.out.size)
  have z := (B2.out.block _ (Array.getElem?_eq_some_iff.1 HZ.out).1).trans HZ.out
  obtain ⟨e0, e1, e2, e3, e4, e5, e6, e7, e8, e9⟩ := fst_cells z
  clear z hin hsz
  have hfp := field_pair
  have hfa := field_acc
  go_upto_region 4 with (go_at_call 6; refine (begin_any f w2 HIN.out).mono ?_; rintro e w3 ⟨B, R, V, s, x, rfl, hpr, hV, hfar, hcok, -⟩; have h72 := hpr.ws.hd5.2.2.2; have hf72 := hfrz hpr.ws.blk 72; have HPR := Lib.hid hpr; have HW : Hid (WPS w2 w3 B V s V.hd 0) := ⟨hpr.ws, rfl, by rw [hV]; exact hcok, by rw [hV]; exact Nat.zero_le _, by rw [hV]; show f.its.length ≤ _; omega, ⟨hfar.1, hfar.2.1⟩, by rw [hV]; intro y hy; cases hy⟩; clear hpr hV hfar hcok e0 e1 e2 e3 e4 e5 e6 e7 e8 e9)
  have hw5 := (HW.out.ws.set 72 (.int .i64 hd) { V with hd := hd } (val_hd B V HW.out.ws.tkl hd) rfl rfl HW.out.ws.tkl).1
  have HW5 : Hid (WPS w2 (w3.setCell ⟨B.wb, 72, none⟩ (.int .i64 hd)) B { V with hd := hd } s hd 0) := ⟨hw5, rfl, HW.out.cok, HW.out.nn, HW.out.ni, HW.out.ns, HW.out.st⟩
  clear hw5 HPR HW
  go_upto_region 5 with (fail)
  generalize w3.setCell ⟨B.wb, 72, none⟩ (.int .i64 hd) = w5 at *
  obtain ⟨V5, hV5⟩ : ∃ V5, V5 = { V with hd := hd } := ⟨_, rfl⟩
  rw [← hV5] at HW5
  clear h72 hf72 d3 hitl HIN B2 HG HZ HR HB hV5
  have HLL2 := Lib.hid (HLL.out.below HBB.out)
  clear HLL
  go_wp2_with fail
  go_loopw [8] (fun i wr => ∃ (k : Nat) (V : WV) (s : CS), k ≤ l.length ∧ i = .int .i64 k ∧ WPS w2 wr B V s hd k) (fun i _ => l.length - (intOf i).toNat)
  case atStart => exact ⟨0, V5, s, by omega, rfl, HW5.out⟩
  case round =>
    clear HW5 V5 s V
    obtain ⟨i, V, s, hi, rfl, hT⟩ := hrel
    have hl300 := HL3.out
    by_cases hlt : i < l.length
    · have hlt' : (i : Int) < l.length := by omega
      obtain ⟨b, off, y, rfl, hy, hyw, y0, y1, y2, y3, y4, y5, y6, y7, y8, y9, y10, y11, y12, y13, y14⟩ := (HLL2.out.below (w := w2) (w' := wr) hT.ws.below).at i hlt
      have hkb := wf_u8 hyw.k
      obtain ⟨kk, hkk⟩ : ∃ kk : Nat, (kk : Int) = y.k % 5 := ⟨(y.k % 5).toNat, by omega⟩
      have e3 : y.k.tmod 5 = kk := by rw [Int.tmod_eq_emod_of_nonneg hkb.1, hkk]
      have hk10 : kk < 5 := by omega
      have hb1 := below_alloc wr (.cells #[.int .u8 y.k, .int .u8 y.n, .int .i64 y.r, .int .i64 y.b, .int .i64 y.u, .int .i64 y.s, .int .i64 y.v, .int .u64 y.a, .int .u64 y.w, .string y.it.key, .string y.it.val, .int .u32 y.it.flags, .int .u64 y.it.id, .int .i64 y.it.dies, .int .i64 y.it.gen] 54)
      have hz1 := heap_alloc_new wr (.cells #[.int .u8 y.k, .int .u8 y.n, .int .i64 y.r, .int .i64 y.b, .int .i64 y.u, .int .i64 y.s, .int .i64 y.v, .int .u64 y.a, .int .u64 y.w, .string y.it.key, .string y.it.val, .int .u32 y.it.flags, .int .u64 y.it.id, .int .i64 y.it.dies, .int .i64 y.it.gen] 54)
      have HT := Lib.hid (hT.keep hb1); have HZ1 := Lib.hid hz1; have HYW := Lib.hid hyw
      clear hb1 hz1 hT hy hyw hkb hkk
      go_upto_region 9 with (fail)
      change Code.wp _ _ _ _ (wr.alloc (.cells #[.int .u8 y.k, .int .u8 y.n, .int .i64 y.r, .int .i64 y.b, .int .i64 y.u, .int .i64 y.s, .int .i64 y.v, .int .u64 y.a, .int .u64 y.w, .string y.it.key, .string y.it.val, .int .u32 y.it.flags, .int .u64 y.it.id, .int .i64 y.it.dies, .int .i64 y.it.gen] 54))
      generalize wr.alloc (.cells #[.int .u8 y.k, .int .u8 y.n, .int .i64 y.r, .int .i64 y.b, .int .i64 y.u, .int .i64 y.s, .int .i64 y.v, .int .u64 y.a, .int .u64 y.w, .string y.it.key, .string y.it.val, .int .u32 y.it.flags, .int .u64 y.it.id, .int .i64 y.it.dies, .int .i64 y.it.gen] 54) = w6 at *
      generalize wr.heap.size = ab at *
      clear y0 y1 y2 y3 y4 y5 y6 y7 y8 y9 y10 y11 y12 y13 y14
      have y0 : w6.cell? ⟨ab, 0, none⟩ = some (.int .u8 y.k) := hcell HZ1.out 0
      have hst := HT.out.ws.steps5
      have hcn := lcount_any HT.out.ws.nt
      obtain ⟨c0, c1, c2, c72⟩ := HT.out.ws.hd5
      go_upto_block 2 with (first
        | (go_at_call 7; with_reducible refine hst.mono ?_; intro e w7 hh; obtain ⟨hh1, hh2⟩ := hh; subst hh1; obtain rfl := hh2.symm)
        | (go_at_call 8; with_reducible refine hcn.mono ?_; intro e w7 hh; obtain ⟨hh1, hh2⟩ := hh; subst hh1; obtain rfl := hh2.symm))
      clear y0 e3 hst hcn c0 c1 c2 c72
      have hcnt := HT.out.ns.2
      go_cut [12] (fun v wx => ∃ (V : WV) (s : CS), v = .int .i64 s.cnt ∧ WPS w2 wx B V s hd (i + 1))
      case first =>
        rcases (show kk = 0 ∨ kk = 1 ∨ kk = 2 ∨ kk = 3 ∨ kk = 4 by omega) with hk | hk | hk | hk | hk
        · -- an Add
          have d0 : ((kk : Int) == 0) = true := beq_iff_eq.2 (by omega)
          clear hk hk10
          have x7 : ∀ st : ExtW w6, st.val.cell? ⟨ab, 7, none⟩ = some (.int .u64 y.a) := fun st => st.cell (hcell HZ1.out 7)
          have x8 : ∀ st : ExtW w6, st.val.cell? ⟨ab, 8, none⟩ = some (.int .u64 y.w) := fun st => st.cell (hcell HZ1.out 8)
          have xw0 : ∀ st : ExtW w6, st.val.cell? ⟨B.wb, 0, none⟩ = some (.pointer (some ⟨B.cb, 0, none⟩)) := fun st => st.cell HT.out.ws.hd5.1
          go_upto_region 19 with (fail)
          refine wp_region_ext_tail 10 (by kernel_rfl) (by kernel_rfl) ?_
          simp only [List.take_succ_cons, List.take_zero, List.drop_succ_cons, List.drop_zero]
          repeat (go_big_quiet_step (fail))
          refine wpQuiet_nil ?_
          rintro W ⟨⟨W2, hW⟩, rfl⟩
          have hadd := (HT.out.ws.keep hW).add (HT.out.room (by omega)) y.a HYW.out.a y.w
          clear x7 x8 xw0 hW d0
          go_wp2_with (go_at_call 9; refine hadd.mono ?_; intro e w8 hh; obtain ⟨hh1, h8, f8⟩ := hh; subst hh1; have H8 := Lib.hid (HT.out.acc 4 y.a _ h8); clear h8 f8 hadd)
          go_meet
          case rel => exact ⟨V, _, rfl, H8.out⟩
        · -- an item
          have d0 : ((kk : Int) == 0) = false := beq_eq_false_iff_ne.2 (by omega)
          have d1 : ((kk : Int) == 1) = true := beq_iff_eq.2 (by omega)
          clear hk hk10
          have x9 : ∀ st : ExtW w6, st.val.cell? ⟨ab, 9, none⟩ = some (.string y.it.key) := fun st => st.cell (hcell HZ1.out 9)
          have x10 : ∀ st : ExtW w6, st.val.cell? ⟨ab, 10, none⟩ = some (.string y.it.val) := fun st => st.cell (hcell HZ1.out 10)
          have x11 : ∀ st : ExtW w6, st.val.cell? ⟨ab, 11, none⟩ = some (.int .u32 y.it.flags) := fun st => st.cell (hcell HZ1.out 11)
          have x12 : ∀ st : ExtW w6, st.val.cell? ⟨ab, 12, none⟩ = some (.int .u64 y.it.id) := fun st => st.cell (hcell HZ1.out 12)
          have x13 : ∀ st : ExtW w6, st.val.cell? ⟨ab, 13, none⟩ = some (.int .i64 y.it.dies) := fun st => st.cell (hcell HZ1.out 13)
          have x14 : ∀ st : ExtW w6, st.val.cell? ⟨ab, 14, none⟩ = some (.int .i64 y.it.gen) := fun st => st.cell (hcell HZ1.out 14)
          have xw1 : ∀ st : ExtW w6, st.val.cell? ⟨B.wb, 1, none⟩ = some (.pointer (some ⟨B.ib, 0, none⟩)) := fun st => st.cell HT.out.ws.hd5.2.1
          go_upto_region 22 with (fail)
          refine wp_region_ext_tail 6 (by kernel_rfl) (by kernel_rfl) ?_
          simp only [List.take_succ_cons, List.take_zero, List.drop_succ_cons, List.drop_zero]
          repeat (go_big_quiet_step (fail))
          refine wpQuiet_nil ?_
          rintro W ⟨⟨W2, hW⟩, rfl⟩
          have hit := (HT.out.ws.keep hW).item y.it (by have := HT.out.ni; omega)
          have HW := Lib.hid hW
          clear x9 x10 x11 x12 x13 x14 xw1 hW d0 d1
          go_upto_region 23 with (go_at_call 10; refine hit.mono ?_; intro e w8 hh; obtain ⟨hh1, h8, f8⟩ := hh; subst hh1; have H8 : Hid (WPS w2 w8 B { V with its := V.its ++ [y.it] } s hd (i + 1)) := ⟨h8, HT.out.hd, HT.out.cok, Nat.le_succ_of_le HT.out.nn, by have := HT.out.ni; show (V.its ++ [y.it]).length ≤ _; rw [List.length_append, List.length_singleton]; omega, by have := HT.out.ns; omega, HT.out.st⟩; have hz8 := f8.cells _ _ _ _ ((HW.out.block _ (Array.getElem?_eq_some_iff.1 HZ1.out).1).trans HZ1.out) rfl; have HZ8 := Lib.hid hz8; clear h8 f8 hz8 hit)
          have x2 : ∀ st : ExtW w8, st.val.cell? ⟨ab, 2, none⟩ = some (.int .i64 y.r) := fun st => st.cell (hcell HZ8.out 2)
          have xw1 : ∀ st : ExtW w8, st.val.cell? ⟨B.wb, 1, none⟩ = some (.pointer (some ⟨B.ib, 0, none⟩)) := fun st => st.cell H8.out.ws.hd5.2.1
          refine wp_region_ext_tail 6 (by kernel_rfl) (by kernel_rfl) ?_
          simp only [List.take_succ_cons, List.take_zero, List.drop_succ_cons, List.drop_zero]
          repeat (go_big_quiet_step (fail))
          refine wpQuiet_nil ?_
          rintro W ⟨⟨W2, hW⟩, rfl⟩
          have hat := (H8.out.ws.keep hW).iat5 (by have := H8.out.ni; omega) y.r
          have HW8 := Lib.hid (H8.out.keep hW)
          clear x2 xw1 hW
          go_wp2_with (go_at_call 11; refine hat.mono ?_; intro e w9 hh; obtain ⟨hh1, b9⟩ := hh; subst hh1; have H9 := Lib.hid (HW8.out.keep b9); clear b9 hat)
          go_meet
          case rel => exact ⟨_, s, rfl, H9.out⟩
        · -- a note
          have d0 : ((kk : Int) == 0) = false := beq_eq_false_iff_ne.2 (by omega)
          have d1 : ((kk : Int) == 1) = false := beq_eq_false_iff_ne.2 (by omega)
          have d2 : ((kk : Int) == 2) = true := beq_iff_eq.2 (by omega)
          clear hk hk10
          have y2 : w6.cell? ⟨ab, 2, none⟩ = some (.int .i64 y.r) := hcell HZ1.out 2
          have y3 : w6.cell? ⟨ab, 3, none⟩ = some (.int .i64 y.b) := hcell HZ1.out 3
          have y4 : w6.cell? ⟨ab, 4, none⟩ = some (.int .i64 y.u) := hcell HZ1.out 4
          have y5 : w6.cell? ⟨ab, 5, none⟩ = some (.int .i64 y.s) := hcell HZ1.out 5
          have y6 : w6.cell? ⟨ab, 6, none⟩ = some (.int .i64 y.v) := hcell HZ1.out 6
          have hnt := wnote_any HT.out.ws 4 y.r y.b y.u y.s y.v (by have := HT.out.nn; omega) (by decide) HT.out.st
          have hnd : nadd V.nts ⟨s.cnt, V.hd, 4, y.r, y.b, y.u, y.s, y.v⟩ = V.nts ++ [⟨s.cnt, V.hd, 4, y.r, y.b, y.u, y.s, y.v⟩] := by unfold nadd; rw [if_pos ⟨(show (1 : Int) ≤ 4 by decide), (show (4 : Int) ≤ 9 by decide)⟩]
          have hst9 := HT.out.st.add (n := ⟨s.cnt, V.hd, 4, y.r, y.b, y.u, y.s, y.v⟩) rfl
          rw [hnd] at hnt hst9
          have hle9 : (V.nts ++ [(⟨s.cnt, V.hd, 4, y.r, y.b, y.u, y.s, y.v⟩ : Nte)]).length = V.nts.length + 1 := by simp
          have hgt9 : (V.nts ++ [(⟨s.cnt, V.hd, 4, y.r, y.b, y.u, y.s, y.v⟩ : Nte)])[V.nts.length]? = some ⟨s.cnt, V.hd, 4, y.r, y.b, y.u, y.s, y.v⟩ := by simp
          generalize hL9 : V.nts ++ [(⟨s.cnt, V.hd, 4, y.r, y.b, y.u, y.s, y.v⟩ : Nte)] = L9 at *
          clear hL9 hnd
          go_upto_region 26 with (go_at_call 12; refine hnt.mono ?_; intro e w8 hh; obtain ⟨hh1, h8, f8⟩ := hh; subst hh1; have H8 : Hid (WPS w2 w8 B { V with nts := L9 } s hd (i + 1)) := ⟨h8, HT.out.hd, HT.out.cok, by have := HT.out.nn; show L9.length ≤ _; omega, by have := HT.out.ni; show V.its.length ≤ _; omega, by have := HT.out.ns; omega, hst9⟩; clear h8 f8 hnt)
          obtain ⟨-, -, c2, -⟩ := H8.out.ws.hd5
          have hal := lall_any H8.out.ws.nt (by have := HT.out.nn; show L9.length ≤ _; omega)
          clear y2 y3 y4 y5 y6 d0 d1 d2 hst9
          have HLE := Lib.hid hle9
          have hlb : V.nts.length ≤ 1000 := by have := HT.out.nn; omega
          go_upto_region 27 with (go_at_call 13; refine hal.mono ?_; intro e w9 hh; obtain ⟨v, hh1, hr, b9⟩ := hh; subst hh1; have HR9 := Lib.hid hr; have H9 := Lib.hid (H8.out.keep b9); clear hr b9 hal c2)
          obtain ⟨hlt9, hgt9⟩ := List.getElem?_eq_some_iff.1 hgt9
          obtain ⟨g, rfl, hcs⟩ := HR9.out.at V.nts.length (by rw [HLE.out]; omega)
          have q0 : w9.cell? ⟨g, V.nts.length * 8, none⟩ = some (.int .i64 s.cnt) := by have := hcs 0 (by omega); simp only [hgt9] at this; exact this
          have q1 : w9.cell? ⟨g, V.nts.length * 8 + 1, none⟩ = some (.int .i64 hd) := by have := hcs 1 (by omega); simp only [hgt9] at this; rw [← HT.out.hd]; exact this
          have q2 : w9.cell? ⟨g, V.nts.length * 8 + 2, none⟩ = some (.int .u8 4) := by have := hcs 2 (by omega); simp only [hgt9] at this; exact this
          clear hcs hgt9 hlt9
          rw [hle9]
          clear hle9 HLE HR9
          go_wp2_with fail
          go_meet
          case rel => exact ⟨_, s, rfl, H9.out⟩
        · -- a look
          have d0 : ((kk : Int) == 0) = false := beq_eq_false_iff_ne.2 (by omega)
          have d1 : ((kk : Int) == 1) = false := beq_eq_false_iff_ne.2 (by omega)
          have d2 : ((kk : Int) == 2) = false := beq_eq_false_iff_ne.2 (by omega)
          have d3 : ((kk : Int) == 3) = true := beq_iff_eq.2 (by omega)
          clear hk hk10
          obtain ⟨hbd, hbw⟩ := conf_budget HT.out.cok
          have hg := fun W (hW : Below w6.heap.size w6 W) => grows_any (HT.out.ws.keep hW).wld hbw
          have hfu := fun W (hW : Below w6.heap.size w6 W) => full_any (HT.out.ws.keep hW).wld hbd
          have hg6 := hg w6 (Below.refl _ _)
          clear hg hbd hbw
          go_upto_region 32 with (first
            | (go_at_call 14; refine hg6.mono ?_; intro e w8 hh; obtain ⟨hh1, b8⟩ := hh; subst hh1; have B8 := Lib.hid b8; have hf8 := hfu _ b8; clear b8 hg6)
            | (go_at_call 15; refine hf8.mono ?_; intro e w9 hh; obtain ⟨hh1, b9⟩ := hh; subst hh1; have B9 := Lib.hid (B8.out.trans (b9.mono B8.out.size)); clear b9 hf8))
          have H9 := Lib.hid (HT.out.keep B9.out)
          have HZ9 := Lib.hid ((B9.out.block _ (Array.getElem?_eq_some_iff.1 HZ1.out).1).trans HZ1.out)
          clear hfu d0 d1 d2 d3
          have x7 : ∀ st : ExtW w9, st.val.cell? ⟨ab, 7, none⟩ = some (.int .u64 y.a) := fun st => st.cell (hcell HZ9.out 7)
          have xw0 : ∀ st : ExtW w9, st.val.cell? ⟨B.wb, 0, none⟩ = some (.pointer (some ⟨B.cb, 0, none⟩)) := fun st => st.cell H9.out.ws.hd5.1
          refine wp_region_ext_tail 7 (by kernel_rfl) (by kernel_rfl) ?_
          simp only [List.take_succ_cons, List.take_zero, List.drop_succ_cons, List.drop_zero]
          repeat (go_big_quiet_step (fail))
          refine wpQuiet_nil ?_
          rintro W ⟨⟨W2, hW⟩, rfl⟩
          have hpk := (H9.out.ws.keep hW).peek y.a HYW.out.a
          have H10 := Lib.hid (H9.out.keep hW)
          clear x7 xw0 hW
          go_wp2_with (go_at_call 16; refine hpk.mono ?_; intro e w10 hh; obtain ⟨hh1, hh2⟩ := hh; subst hh1; obtain rfl := hh2.symm)
          go_meet
          case rel => exact ⟨V, s, rfl, H10.out.le (by omega)⟩
        · -- a tick
          have d0 : ((kk : Int) == 0) = false := beq_eq_false_iff_ne.2 (by omega)
          have d1 : ((kk : Int) == 1) = false := beq_eq_false_iff_ne.2 (by omega)
          have d2 : ((kk : Int) == 2) = false := beq_eq_false_iff_ne.2 (by omega)
          have d3 : ((kk : Int) == 3) = false := beq_eq_false_iff_ne.2 (by omega)
          clear hk hk10
          obtain ⟨c0, -, -, -⟩ := HT.out.ws.hd5
          have hp1 := HT.out.ws.peek 8 (by decide)
          have hxw := HT.out.ws.own.wf 8
          have hlaw' := enow_tick (s.val 8) (wf_bd hxw)
          have hn1 := enow_any (s.val 8) hxw w6
          obtain ⟨x8, hx8⟩ : ∃ x8, x8 = s.val 8 := ⟨_, rfl⟩
          rw [← hx8] at hp1 hn1 hlaw'
          have HX8 := Lib.hid hx8; have HLAW := Lib.hid hlaw'
          clear hlaw' hxw hx8
          go_upto_region 14 with (first
            | (go_at_call 16; refine hp1.mono ?_; intro e w8 hh; obtain ⟨hh1, hh2⟩ := hh; subst hh1; obtain rfl := hh2.symm; clear hp1)
            | (go_at_call 17; refine hn1.mono ?_; intro e w8 hh; obtain ⟨hh1, b8⟩ := hh; subst hh1; have H8 := Lib.hid (HT.out.keep b8); clear b8 hn1))
          have htk := H8.out.ws.tick (H8.out.room (by omega))
          clear c0 d0 d1 d2 d3
          go_upto_region 15 with (go_at_call 18; refine htk.mono ?_; intro e w9 hh; obtain ⟨hh1, h9, f9⟩ := hh; subst hh1; have H9 := Lib.hid (H8.out.acc 3 8 _ h9); clear h9 f9 htk)
          obtain ⟨c0, -, -, -⟩ := H9.out.ws.hd5
          have hp2 := H9.out.ws.peek 8 (by decide)
          have hv2 : (s.acc 3 8 (eTick (s.val 8))).val 8 = eTick x8 := by rw [show x8 = s.val 8 from HX8.out]; simp [CS.acc, upd]
          have hxw2 := H9.out.ws.own.wf 8
          rw [hv2] at hp2 hxw2
          have hn2 := enow_any (eTick x8) hxw2 w9
          have hls := fun W (hW : Below w9.heap.size w9 W) => (H9.out.ws.keep hW).last5
          obtain ⟨hlaw, hnb0, hnb1⟩ := HLAW.out
          rw [hlaw] at hn2
          clear hlaw
          generalize eTick x8 = x9 at *
          generalize eNow x8 = n8 at *
          go_wp2_with (first
            | (go_at_call 16; refine hp2.mono ?_; intro e w10 hh; obtain ⟨hh1, hh2⟩ := hh; subst hh1; obtain rfl := hh2.symm; clear hp2)
            | (go_at_call 17; refine hn2.mono ?_; intro e w10 hh; obtain ⟨hh1, b10⟩ := hh; subst hh1; have hl10 := hls _ b10; have H10 := Lib.hid (H9.out.keep b10); obtain ⟨c10, -, -, -⟩ := H10.out.ws.hd5; clear b10 hn2 c0 hls)
            | (go_at_call 19; refine hl10.mono ?_; intro e w11 hh; obtain ⟨hh1, b11⟩ := hh; subst hh1; have H11 := Lib.hid (H10.out.keep b11); clear b11 hl10))
          all_goals go_meet
          all_goals exact ⟨V, _, rfl, H11.out⟩
      case rest =>
      obtain ⟨V', s', hv, hT2⟩ := hcut
      subst hv
      have hst := hT2.ws.steps5
      have HT2 := Lib.hid hT2
      have hcb := hT2.ns.2
      clear hT2 HT HZ1 HYW
      go_wp2_with (go_at_call 7; refine hst.mono ?_; intro e w7 hh; obtain ⟨hh1, hh2⟩ := hh; subst hh1; obtain rfl := hh2.symm)
      go_roundw
      case rel => exact ⟨i + 1, V', s', by omega, by go_num, HT2.out⟩
      case measure => simp [intOf]; omega
    · obtain rfl : i = l.length := by omega
      have HT := Lib.hid hT
      clear hT hlt
      go_wp2_with (go_at_call 5; refine (lives10 _).mono ?_; rintro e w18 ⟨rfl, b18⟩)
      go_ret
      have h0 := HT.out.ws.below
      exact ⟨rfl, HBB.out.trans ((h0.trans (b18.mono h0.size)).mono HBB.out.size)⟩
set_option maxRecDepth 10000 in
theorem walkWorldsSteps {H1 : Type} (w : World) (enc : TypeId × Value → H1) (base : Nat) (v : Value) (d : DataW H1) (p : List MemPlace) (k : DataW.Trod enc Try.prog w 0 (fun _ => true) true 28 v d p) (o : Value.okWide Try.prog w .any base 28 v)
    (enc2 : TypeId × Value → H1) (base2 : Nat) (v2 : Value) (d2 : DataW H1) (p2 : List MemPlace) (k2 : DataW.Trod enc2 Try.prog w 0 (fun _ => true) true 29 v2 d2 p2) (o2 : Value.okWide Try.prog w .any base2 29 v2) (n : Int) (hn : (Lit.int .i64 n).wf = true) :
    Calls Try.prog 3 #[v, v2, .int .i64 n] w fun e w' => e = .returned (.bool true) ∧ Below w.heap.size w w' := by
  have hl : leaves Try.prog 6 29 = some [.sl wacLeaves] := by kernel_rfl
  obtain ⟨f, rfl, hr⟩ := fst_open k o
  obtain ⟨a1, n1, cap1, rfl⟩ := Go.WideShapes.okWide_slice Try.underlying29 o2
  obtain ⟨l, hll, hac⟩ := wacts_of (opened hl k2).1
  subst hll
  exact wsteps_any f l a1 cap1 n w hr hac
end Go.Proofs.Ytjfocckdbaaimaa
