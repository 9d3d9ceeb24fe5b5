/-
  Texts of this prover, merged: TurnsDo, TurnsAll.
-/
import Derived.Test.YtddflihgadlafaaTicketsDo
import Derived.Test.YtddflihgadlafaaM1
/-
  TicketsOne: a client's steps, in memory.
-/
namespace Go.Proofs.Ytddflihgadlafaa
open Go.RowKit
set_option linter.unusedVariables false

/-- Of the old blocks only two, and such of a world, have turned. -/
structure Two (b1 b2 : Nat) (w w' : World) : Prop where
  size : w.heap.size ≤ w'.heap.size
  cells : ∀ (k : Nat) (cs : Array Value) (T : TypeId) (fr : Nat × Nat), w.heap[k]? = some (.cells cs T fr) → wTy T = false → k ≠ b1 → k ≠ b2 → w'.heap[k]? = some (.cells cs T fr)
theorem Two.trans {b1 b2 : Nat} {a c d : World} (h : Two b1 b2 a c) (k : Two b1 b2 c d) : Two b1 b2 a d :=
  ⟨Nat.le_trans h.size k.size, fun i cs T fr hi hT h1 h2 => k.cells i cs T fr (h.cells i cs T fr hi hT h1 h2) hT h1 h2⟩
theorem Fx.two1 {b1 b2 : Nat} {w w' : World} (h : Fx wTy true b1 w w') : Two b1 b2 w w' := ⟨h.size, fun k cs T fr h1 h2 h3 _ => h.cells k cs T fr h1 h2 h3⟩
theorem Fx.two2 {b1 b2 : Nat} {w w' : World} (h : Fx wTy true b2 w w') : Two b1 b2 w w' := ⟨h.size, fun k cs T fr h1 h2 _ h3 => h.cells k cs T fr h1 h2 h3⟩
theorem Fr.two {b1 b2 : Nat} {w w' : World} (h : Fr wTy true w w') : Two b1 b2 w w' := ⟨h.size, fun k cs T fr h1 h2 _ _ => h.cells k cs T fr h1 h2⟩
theorem set_two1 {b1 b2 : Nat} (w : World) (o : Nat) (v : Value) : Two b1 b2 w (w.setCell ⟨b1, o, none⟩ v) := (set_fx _ _ w b1 o v).two1
theorem Below.two {b1 b2 : Nat} {w w' : World} (h : Below w.heap.size w w') : Two b1 b2 w w' := (below_fr h wTy true).two

abbrev Clb (w : World) (b : Nat) (t left H hs : Int) (inn : Bool) (tk gv : Value) : Prop := w.heap[b]? = some (.cells #[.int .i64 t, .int .i64 left, .int .i64 H, .int .i64 hs, .bool inn, tk, gv] 82 (0, 0))
section
variable {w0 w : World} {B : WB} {V : WV} {s : CS} {b : Nat} {t l H hs : Int}

set_option maxRecDepth 10000 in
set_option maxHeartbeats 1000000 in
theorem cstep_give {gb : Nat} (h : WS w0 w B V s) (hr : s.room) (hlo : w0.heap.size ≤ b) (hC : Clb w b t l H hs false (.pointer none) (.pointer (some ⟨gb, 0, none⟩))) (hG : GiveAt w gb 1) (hlg : w0.heap.size ≤ gb) :
    Calls Try.prog 53 #[.pointer (some ⟨b, 0, none⟩), .pointer (some ⟨B.wb, 0, none⟩)] w fun e w' => e = .returned (.tuple #[]) ∧ WS w0 w' B { V with hd := -1 } (s.acc 4 1 (wu (s.val 1 + 1))) ∧
      Clb w' b t l H hs false (.pointer none) (.pointer none) ∧ Two b gb w w' := by
  have hne : b ≠ gb := fun e => by subst e; have := hC.symm.trans hG; simp only [Option.some.injEq, Obj.cells.injEq] at this; exact absurd this.2.1 (by decide)
  have hgs := gstep h hr hlg hG
  have c6 := hcell hC 6
  have HC := Lib.hid hC; have HNE := Lib.hid hne; have HLO := Lib.hid hlo
  clear h hr hG hC hne hlg hlo
  go_enter Try.func53, Try.ntmps53
  go_upto_region 2 with (go_at_call 52; refine hgs.mono ?_; rintro e w2 ⟨rfl, h2, g2, f2⟩; have H2 := Lib.hid h2; have HC2 := Lib.hid (f2.cells _ _ _ _ HC.out rfl HNE.out); have F2 := Lib.hid f2; clear h2 g2 f2 hgs c6)
  have c6 := hcell HC2.out 6
  have cf := hfrz HC2.out 6
  have h3 := set_take (o := 6) H2.out HC2.out rfl HLO.out (.pointer none)
  have hc3 := setCell_same HC2.out 6 (.pointer none)
  have F3 : Hid (Two b gb w (w2.setCell ⟨b, 6, none⟩ (.pointer none))) := F2.out.two2.trans (set_two1 w2 6 (.pointer none))
  have H3 := Lib.hid h3; have HC3 := Lib.hid hc3
  clear h3 hc3 HC2 H2 F2
  go_wp2
  go_end0
  exact ⟨rfl, H3.out, HC3.out, F3.out⟩
set_option maxRecDepth 10000 in
set_option maxHeartbeats 1000000 in
theorem cstep_more (h : WS w0 w B V s) (hr : s.room) (hlo : w0.heap.size ≤ b) (h2 : 2 ≤ hs ∧ hs ≤ 3) (hC : Clb w b t l H hs true (.pointer none) (.pointer none)) :
    Calls Try.prog 53 #[.pointer (some ⟨b, 0, none⟩), .pointer (some ⟨B.wb, 0, none⟩)] w fun e w' => e = .returned (.tuple #[]) ∧ WS w0 w' B V (s.acc 1 6 (s.val 6)) ∧
      Clb w' b t l H (hs - 1) true (.pointer none) (.pointer none) ∧ Two b b w w' := by
  have hld := h.load hr 6 (by decide)
  have c0 := h.c0
  have c4 := hcell hC 4
  have c6 := hcell hC 6
  have e1 : wrap64 (hs - 1) = hs - 1 := IntWalk.wrap64_in _ (by omega)
  have e2 : decide (hs - 1 ≤ 0) = false := by simp; omega
  have HC := Lib.hid hC; have HLO := Lib.hid hlo
  clear h hr hC hlo h2
  go_enter Try.func53, Try.ntmps53
  go_upto_region 5 with (go_at_call 85; refine hld.mono ?_; rintro e w2 ⟨rfl, h2, f2⟩; have H2 := Lib.hid h2; have HC2 := Lib.hid (f2.cells _ _ _ _ HC.out rfl); have F2 := Lib.hid f2; clear h2 f2 hld c6 c4 c0)
  have c3 := hcell HC2.out 3
  have cf := hfrz HC2.out 3
  have h3 := set_take (o := 3) H2.out HC2.out rfl HLO.out (.int .i64 (hs - 1))
  have hc3 := setCell_same HC2.out 3 (.int .i64 (hs - 1))
  have F3 : Hid (Two b b w (w2.setCell ⟨b, 3, none⟩ (.int .i64 (hs - 1)))) := F2.out.two.trans (set_two1 w2 3 (.int .i64 (hs - 1)))
  have H3 := Lib.hid h3; have HC3 := Lib.hid hc3
  clear h3 hc3 HC2 H2 F2
  go_upto_region 6 with (fail)
  generalize w2.setCell ⟨b, 3, none⟩ (.int .i64 (hs - 1)) = w3 at *
  clear c3 cf
  have c3 := hcell HC3.out 3
  go_wp2
  go_end0
  exact ⟨rfl, H3.out, HC3.out, F3.out⟩
set_option maxRecDepth 10000 in
set_option maxHeartbeats 1000000 in
theorem cstep_last (h : WS w0 w B V s) (hr : s.room) (hlo : w0.heap.size ≤ b) (hC : Clb w b t l H 1 true (.pointer none) (.pointer none)) :
    Calls Try.prog 53 #[.pointer (some ⟨b, 0, none⟩), .pointer (some ⟨B.wb, 0, none⟩)] w fun e w' => e = .returned (.tuple #[]) ∧ WS w0 w' B V (s.acc 1 6 (s.val 6)) ∧
      (∃ gb, Clb w' b t l H 0 false (.pointer none) (.pointer (some ⟨gb, 0, none⟩)) ∧ GiveAt w' gb 1 ∧ w0.heap.size ≤ gb) ∧ Two b b w w' := by
  have hld := h.load hr 6 (by decide)
  have c0 := h.c0
  have c4 := hcell hC 4
  have c6 := hcell hC 6
  have HC := Lib.hid hC; have HLO := Lib.hid hlo
  clear h hr hC hlo
  go_enter Try.func53, Try.ntmps53
  go_upto_region 5 with (go_at_call 85; refine hld.mono ?_; rintro e w2 ⟨rfl, h2, f2⟩; have H2 := Lib.hid h2; have HC2 := Lib.hid (f2.cells _ _ _ _ HC.out rfl); have F2 := Lib.hid f2; clear h2 f2 hld c6 c4 c0)
  have c3 := hcell HC2.out 3
  have cf := hfrz HC2.out 3
  have h3 := set_take (o := 3) H2.out HC2.out rfl HLO.out (.int .i64 0)
  have hc3 := setCell_same HC2.out 3 (.int .i64 0)
  have F3 : Hid (Two b b w (w2.setCell ⟨b, 3, none⟩ (.int .i64 0))) := F2.out.two.trans (set_two1 w2 3 (.int .i64 0))
  have H3 := Lib.hid h3; have HC3 := Lib.hid hc3
  clear h3 hc3 HC2 H2 F2
  go_upto_region 6 with (fail)
  generalize w2.setCell ⟨b, 3, none⟩ (.int .i64 0) = w3 at *
  clear c3 cf
  have c3 := hcell HC3.out 3
  have c4 := hcell HC3.out 4
  have cf := hfrz HC3.out 4
  have h4 := set_take (o := 4) H3.out HC3.out rfl HLO.out (.bool false)
  have hc4 := setCell_same HC3.out 4 (.bool false)
  have F4 : Hid (Two b b w (w3.setCell ⟨b, 4, none⟩ (.bool false))) := F3.out.trans (set_two1 w3 4 (.bool false))
  have H4 := Lib.hid h4; have HC4 := Lib.hid hc4
  clear h4 hc4 H3 F3 HC3
  go_upto_region 8 with (fail)
  generalize w3.setCell ⟨b, 4, none⟩ (.bool false) = w4 at *
  clear c3 c4 cf
  go_wp2_with (go_at_call 51; refine (newgive w4).mono ?_; rintro e w5 ⟨rfl, g5, b5⟩; have H5 := Lib.hid (H4.out.keep b5); have hc5 := (b5.block _ (Array.getElem?_eq_some_iff.1 HC4.out).1).trans HC4.out; have cf := hfrz hc5 6; have c6 := hcell hc5 6; have HC5 := Lib.hid hc5; have HG5 := Lib.hid g5; have F5 : Hid (Two b b w w5) := F4.out.trans (Below.two b5); clear hc5 g5 b5)
  go_end0
  have hsz := H4.out.below.size
  have hne : w4.heap.size ≠ b := fun e => by have := (Array.getElem?_eq_some_iff.1 HC4.out).1; omega
  exact ⟨rfl, set_take (o := 6) H5.out HC5.out rfl HLO.out _, ⟨w4.heap.size, setCell_same HC5.out 6 _, (Below.heap_setCell _ _ _ _ hne).trans HG5.out, hsz⟩, F5.out.trans (set_two1 w5 6 _)⟩
set_option maxRecDepth 10000 in
set_option maxHeartbeats 1000000 in
theorem cstep_yes {tb q : Nat} (h : WS w0 w B V s) (hr : s.room) (hq : q < 64) (hlo : w0.heap.size ≤ b) (hC : Clb w b q l H hs false (.pointer (some ⟨tb, 0, none⟩)) (.pointer none)) (hT : TakeAt w tb q (s.val 1) true 2) (hlt : w0.heap.size ≤ tb) :
    Calls Try.prog 53 #[.pointer (some ⟨b, 0, none⟩), .pointer (some ⟨B.wb, 0, none⟩)] w fun e w' => e = .returned (.tuple #[]) ∧ WS w0 w' B { V with tk := V.tk.set q 0, hd := q } (s.acc 1 1 (s.val 1)) ∧
      Clb w' b q l H H true (.pointer none) (.pointer none) ∧ Two b tb w w' := by
  have hne : b ≠ tb := fun e => by subst e; have := hC.symm.trans hT; simp only [Option.some.injEq, Obj.cells.injEq] at this; exact absurd this.2.1 (by decide)
  have hts := tstep2y h hr hlt hq hT
  have c4 := hcell hC 4
  have c5 := hcell hC 5
  have c6 := hcell hC 6
  have HC := Lib.hid hC; have HNE := Lib.hid hne; have HLO := Lib.hid hlo
  clear h hr hT hC hne hlt hlo
  go_enter Try.func53, Try.ntmps53
  go_upto_region 11 with (go_at_call 50; refine hts.mono ?_; rintro e w2 ⟨rfl, h2, g2, f2⟩; have H2 := Lib.hid h2; have HC2 := Lib.hid (f2.cells _ _ _ _ HC.out rfl HNE.out); have F2 := Lib.hid f2; clear h2 g2 f2 hts c4 c5 c6)
  have cf := hfrz HC2.out 5
  have c5 := hcell HC2.out 5
  have h3 := set_take (o := 5) H2.out HC2.out rfl HLO.out (.pointer none)
  have hc3 := setCell_same HC2.out 5 (.pointer none)
  have F3 : Hid (Two b tb w (w2.setCell ⟨b, 5, none⟩ (.pointer none))) := F2.out.two2.trans (set_two1 w2 5 (.pointer none))
  have H3 := Lib.hid h3; have HC3 := Lib.hid hc3
  clear h3 hc3 HC2 H2 F2
  go_upto_region 12 with (fail)
  generalize w2.setCell ⟨b, 5, none⟩ (.pointer none) = w3 at *
  clear cf c5
  have c4 := hcell HC3.out 4
  have cf := hfrz HC3.out 4
  have h4 := set_take (o := 4) H3.out HC3.out rfl HLO.out (.bool true)
  have hc4 := setCell_same HC3.out 4 (.bool true)
  have F4 : Hid (Two b tb w (w3.setCell ⟨b, 4, none⟩ (.bool true))) := F3.out.trans (set_two1 w3 4 (.bool true))
  have H4 := Lib.hid h4; have HC4 := Lib.hid hc4
  clear h4 hc4 H3 F3 HC3
  go_upto_region 13 with (fail)
  generalize w3.setCell ⟨b, 4, none⟩ (.bool true) = w4 at *
  clear cf c4
  have cf := hfrz HC4.out 3
  have c2 := hcell HC4.out 2
  have c3 := hcell HC4.out 3
  go_wp2
  go_end0
  exact ⟨rfl, set_take (o := 3) H4.out HC4.out rfl HLO.out _, setCell_same HC4.out 3 _, F4.out.trans (set_two1 w4 3 _)⟩
set_option maxRecDepth 10000 in
set_option maxHeartbeats 1000000 in
theorem cstep_no {tb q : Nat} {k : Int} (h : WS w0 w B V s) (hr : s.room) (hC : Clb w b q l H hs false (.pointer (some ⟨tb, 0, none⟩)) (.pointer none)) (hT : TakeAt w tb q k true 2) (hk : s.val 1 ≠ k) :
    Calls Try.prog 53 #[.pointer (some ⟨b, 0, none⟩), .pointer (some ⟨B.wb, 0, none⟩)] w fun e w' => e = .returned (.tuple #[]) ∧ WS w0 w' B V (s.acc 1 1 (s.val 1)) ∧
      Clb w' b q l H hs false (.pointer (some ⟨tb, 0, none⟩)) (.pointer none) ∧ TakeAt w' tb q k true 2 ∧ Two b tb w w' := by
  have hne : b ≠ tb := fun e => by subst e; have := hC.symm.trans hT; simp only [Option.some.injEq, Obj.cells.injEq] at this; exact absurd this.2.1 (by decide)
  have hts := tstep2n h hr hT hk
  have c4 := hcell hC 4
  have c5 := hcell hC 5
  have c6 := hcell hC 6
  have HC := Lib.hid hC; have HNE := Lib.hid hne
  clear h hr hT hC hne hk
  go_enter Try.func53, Try.ntmps53
  go_wp2_with (go_at_call 50; refine hts.mono ?_; rintro e w2 ⟨rfl, h2, g2, f2⟩; have H2 := Lib.hid h2; have HC2 := Lib.hid (f2.cells _ _ _ _ HC.out rfl HNE.out); have G2 := Lib.hid g2; have F2 := Lib.hid f2; clear h2 g2 f2 hts c4 c5 c6)
  go_end0
  exact ⟨rfl, H2.out, HC2.out, G2.out, F2.out.two2⟩
theorem cstep_done (hC : Clb w b t 0 H hs false (.pointer none) (.pointer none)) :
    Calls Try.prog 53 #[.pointer (some ⟨b, 0, none⟩), .pointer (some ⟨B.wb, 0, none⟩)] w fun e w' => e = .returned (.tuple #[]) ∧ w' = w := by
  have c1 := hcell hC 1
  have c4 := hcell hC 4
  have c5 := hcell hC 5
  have c6 := hcell hC 6
  clear hC
  go_enter Try.func53, Try.ntmps53
  go_wp2
  go_end0
  exact ⟨rfl, rfl⟩
/-- The first step of a Take. -/
theorem cstep1 {tb q : Nat} (h : WS w0 w B V s) (hr : s.room) (hq : q < 64) (hC : Clb w b q l H hs false (.pointer (some ⟨tb, 0, none⟩)) (.pointer none)) (hT : TakeAt w tb q 0 false 1) (hlt : w0.heap.size ≤ tb) :
    Calls Try.prog 86 #[.pointer (some ⟨b, 0, none⟩), .pointer (some ⟨B.wb, 0, none⟩)] w fun e w' => e = .returned (.tuple #[]) ∧ WS w0 w' B { V with tk := V.tk.set q (wu (s.val 0 + 1)) } (s.acc 4 0 (wu (s.val 0 + 1))) ∧
      Clb w' b q l H hs false (.pointer (some ⟨tb, 0, none⟩)) (.pointer none) ∧ TakeAt w' tb q (s.val 0) true 2 ∧ Two b tb w w' := by
  have hne : b ≠ tb := fun e => by subst e; have := hC.symm.trans hT; simp only [Option.some.injEq, Obj.cells.injEq] at this; exact absurd this.2.1 (by decide)
  have hts := tstep1 h hr hlt hq hT
  have c5 := hcell hC 5
  have HC := Lib.hid hC; have HNE := Lib.hid hne
  clear h hr hT hC hne
  go_enter Try.func86, Try.ntmps86
  go_wp2_with (go_at_call 50; refine hts.mono ?_; rintro e w2 ⟨rfl, h2, g2, f2⟩; have H2 := Lib.hid h2; have HC2 := Lib.hid (f2.cells _ _ _ _ HC.out rfl HNE.out); have G2 := Lib.hid g2; have F2 := Lib.hid f2; clear h2 g2 f2 hts c5)
  go_end0
  exact ⟨rfl, H2.out, HC2.out, G2.out, F2.out.two2⟩
set_option maxRecDepth 10000 in
set_option maxHeartbeats 1000000 in
theorem cstep_draw {q L : Nat} (h : WS w0 w B V s) (hr : s.room) (hq : q < 64) (hL : L < 100) (hlo : w0.heap.size ≤ b) (hC : Clb w b q ((L + 1 : Nat) : Int) H hs false (.pointer none) (.pointer none)) :
    Calls Try.prog 53 #[.pointer (some ⟨b, 0, none⟩), .pointer (some ⟨B.wb, 0, none⟩)] w fun e w' => e = .returned (.tuple #[]) ∧ WS w0 w' B { V with tk := V.tk.set q (wu (s.val 0 + 1)) } (s.acc 4 0 (wu (s.val 0 + 1))) ∧
      (∃ tb, Clb w' b q L H hs false (.pointer (some ⟨tb, 0, none⟩)) (.pointer none) ∧ TakeAt w' tb q (s.val 0) true 2 ∧ w0.heap.size ≤ tb) ∧ Two b b w w' := by
  have c0 := hcell hC 0
  have c1 : w.cell? ⟨b, 1, none⟩ = some (.int .i64 ((L + 1 : Nat) : Int)) := hcell hC 1
  have c4 := hcell hC 4
  have c5 := hcell hC 5
  have c6 := hcell hC 6
  rw [show ((L + 1 : Nat) : Int) = (L : Int) + 1 by omega] at c1
  have e0 : wrap64 (L : Int) = L := IntWalk.wrap64_in _ (by omega)
  have e1 : wrap64 ((L : Int) + 1 - 1) = L := by rw [show (L : Int) + 1 - 1 = L by omega]; exact e0
  have e2 : decide ((0 : Int) < (L : Int) + 1) = true := by simp only [decide_eq_true_eq]; omega
  have H0 := Lib.hid h; have HR := Lib.hid hr; have HC := Lib.hid hC; have HLO := Lib.hid hlo
  clear h hr hC hlo hL
  go_enter Try.func53, Try.ntmps53
  have cf := hfrz HC.out 1
  have h3 := set_take (o := 1) H0.out HC.out rfl HLO.out (.int .i64 L)
  have hc3 : Clb (w.setCell ⟨b, 1, none⟩ (.int .i64 L)) b q L H hs false (.pointer none) (.pointer none) := setCell_same HC.out 1 (.int .i64 L)
  have F3 : Hid (Two b b w (w.setCell ⟨b, 1, none⟩ (.int .i64 L))) := set_two1 w 1 (.int .i64 L)
  have H3 := Lib.hid h3; have HC3 := Lib.hid hc3
  clear h3 hc3
  go_upto_region 16 with (fail)
  generalize w.setCell ⟨b, 1, none⟩ (.int .i64 L) = w3 at *
  clear c0 c1 c4 c5 c6 cf e0 e1 e2
  have c0 := hcell HC3.out 0
  have hnt := newtake_in q hq w3
  go_upto_region 17 with (go_at_call 49; refine hnt.mono ?_; rintro e w4 ⟨rfl, t4, b4⟩; have H4 := Lib.hid (H3.out.keep b4); have hc4 := (b4.block _ (Array.getElem?_eq_some_iff.1 HC3.out).1).trans HC3.out; have cf := hfrz hc4 5; have c5 := hcell hc4 5; have HC4 := Lib.hid hc4; have T4 := Lib.hid t4; have F4 : Hid (Two b b w w4) := F3.out.trans (Below.two b4); clear hc4 t4 b4 c0 hnt)
  have hsz := H3.out.below.size
  have hne : w3.heap.size ≠ b := fun e => by have := (Array.getElem?_eq_some_iff.1 HC3.out).1; omega
  have h5 := set_take (o := 5) H4.out HC4.out rfl HLO.out (.pointer (some ⟨w3.heap.size, 0, none⟩))
  have hc5 : Clb (w4.setCell ⟨b, 5, none⟩ (.pointer (some ⟨w3.heap.size, 0, none⟩))) b q L H hs false (.pointer (some ⟨w3.heap.size, 0, none⟩)) (.pointer none) := setCell_same HC4.out 5 (.pointer (some ⟨w3.heap.size, 0, none⟩))
  have t5 : TakeAt (w4.setCell ⟨b, 5, none⟩ (.pointer (some ⟨w3.heap.size, 0, none⟩))) w3.heap.size q 0 false 1 := (Below.heap_setCell _ _ _ _ hne).trans T4.out
  have F5 : Hid (Two b b w (w4.setCell ⟨b, 5, none⟩ (.pointer (some ⟨w3.heap.size, 0, none⟩)))) := F4.out.trans (set_two1 w4 5 _)
  have hst := cstep1 h5 HR.out hq hc5 t5 hsz
  clear h5 hc5 t5
  generalize w4.setCell ⟨b, 5, none⟩ (.pointer (some ⟨w3.heap.size, 0, none⟩)) = w5 at *
  have HNE := Lib.hid hne; have HSZ := Lib.hid hsz; have HLT : Hid (w.heap.size ≤ w3.heap.size) := F3.out.size
  clear hne hsz
  generalize w3.heap.size = tb at *
  go_wp2_with (go_at_call 86; refine hst.mono ?_; rintro e w6 ⟨rfl, h6, c6, t6, f6⟩; have H6 := Lib.hid h6; have C6 := Lib.hid c6; have T6 := Lib.hid t6; have F6 := Lib.hid f6; clear h6 c6 t6 f6 hst)
  go_end0
  exact ⟨rfl, H6.out, ⟨tb, C6.out, T6.out, HSZ.out⟩, ⟨Nat.le_trans F5.out.size F6.out.size, fun k cs T fr h1 h2 h3 h4 => F6.out.cells k cs T fr (F5.out.cells k cs T fr h1 h2 h3 h4) h2 h3 (fun e => by have := (Array.getElem?_eq_some_iff.1 h1).1; have := HLT.out; omega)⟩⟩
end
end Go.Proofs.Ytddflihgadlafaa

/-
  TicketsOne: a client's step, whatever its place in the line; the line of who drew.
-/
namespace Go.Proofs.Ytddflihgadlafaa
open Go.RowKit
set_option linter.unusedVariables false

theorem cells_ne {w : World} {a b T1 T2 : Nat} {c1 c2 : Array Value} {f1 f2 : Nat × Nat} (h1 : w.heap[a]? = some (.cells c1 T1 f1)) (h2 : w.heap[b]? = some (.cells c2 T2 f2)) (h : T1 ≠ T2 ∨ c1[0]? ≠ c2[0]?) : a ≠ b := fun e => by
  subst e
  have := h1.symm.trans h2
  simp only [Option.some.injEq, Obj.cells.injEq] at this
  rcases h with h | h
  · exact h this.2.1
  · exact h (by rw [this.1])
def ClAt (w : World) (base b t H l : Nat) : Ph → Prop
  | .idle => base ≤ b ∧ ∃ hs : Int, Clb w b t l H hs false (.pointer none) (.pointer none)
  | .wait k => base ≤ b ∧ ∃ (hs : Int) (tb : Nat), Clb w b t l H hs false (.pointer (some ⟨tb, 0, none⟩)) (.pointer none) ∧ TakeAt w tb t k true 2 ∧ base ≤ tb
  | .hold g => base ≤ b ∧ Clb w b t l H g true (.pointer none) (.pointer none)
  | .give => base ≤ b ∧ ∃ (hs : Int) (gb : Nat), Clb w b t l H hs false (.pointer none) (.pointer (some ⟨gb, 0, none⟩)) ∧ GiveAt w gb 1 ∧ base ≤ gb
theorem ClAt.lo {w : World} {base b t H l : Nat} {ph : Ph} (h : ClAt w base b t H l ph) : base ≤ b := by cases ph <;> exact h.1
theorem ClAt.blk {w : World} {base b t H l : Nat} {ph : Ph} (h : ClAt w base b t H l ph) : ∃ cs, w.heap[b]? = some (.cells cs 82 (0, 0)) ∧ cs[0]? = some (.int .i64 t) := by
  cases ph with
  | idle => obtain ⟨_, hs, h⟩ := h; exact ⟨_, h, rfl⟩
  | wait k => obtain ⟨_, hs, tb, h, _⟩ := h; exact ⟨_, h, rfl⟩
  | hold g => obtain ⟨_, h⟩ := h; exact ⟨_, h, rfl⟩
  | give => obtain ⟨_, hs, gb, h, _⟩ := h; exact ⟨_, h, rfl⟩
theorem ClAt.two {w w' : World} {base b t H l b1 b2 : Nat} {ph : Ph} (h : ClAt w base b t H l ph) (hf : Two b1 b2 w w') (hb : b ≠ b1 ∧ b ≠ b2) (hT : ∀ tb k, TakeAt w tb t k true 2 → tb ≠ b1 ∧ tb ≠ b2)
    (hG : ph = .give → ∀ gb, GiveAt w gb 1 → gb ≠ b1 ∧ gb ≠ b2) : ClAt w' base b t H l ph := by
  cases ph with
  | idle => obtain ⟨h0, hs, h⟩ := h; exact ⟨h0, hs, hf.cells _ _ _ _ h rfl hb.1 hb.2⟩
  | wait k => obtain ⟨h0, hs, tb, h, h2, h3⟩ := h; exact ⟨h0, hs, tb, hf.cells _ _ _ _ h rfl hb.1 hb.2, hf.cells _ _ _ _ h2 rfl (hT _ _ h2).1 (hT _ _ h2).2, h3⟩
  | hold g => obtain ⟨h0, h⟩ := h; exact ⟨h0, hf.cells _ _ _ _ h rfl hb.1 hb.2⟩
  | give => obtain ⟨h0, hs, gb, h, h2, h3⟩ := h; exact ⟨h0, hs, gb, hf.cells _ _ _ _ h rfl hb.1 hb.2, hf.cells _ _ _ _ h2 rfl (hG rfl _ h2).1 (hG rfl _ h2).2, h3⟩
theorem ClAt.fr {K : TypeId → Bool} {mp : Bool} {w w' : World} {base b t H l : Nat} {ph : Ph} (h : ClAt w base b t H l ph) (hf : Fr K mp w w') (h1 : K 82 = false) (h2 : K 176 = false) (h3 : K 178 = false) : ClAt w' base b t H l ph := by
  cases ph with
  | idle => obtain ⟨h0, hs, h⟩ := h; exact ⟨h0, hs, hf.cells _ _ _ _ h h1⟩
  | wait k => obtain ⟨h0, hs, tb, h, g2, g3⟩ := h; exact ⟨h0, hs, tb, hf.cells _ _ _ _ h h1, hf.cells _ _ _ _ g2 h2, g3⟩
  | hold g => obtain ⟨h0, h⟩ := h; exact ⟨h0, hf.cells _ _ _ _ h h1⟩
  | give => obtain ⟨h0, hs, gb, h, g2, g3⟩ := h; exact ⟨h0, hs, gb, hf.cells _ _ _ _ h h1, hf.cells _ _ _ _ g2 h3, g3⟩

def tkOf : Ph → Int
  | .wait k => (k : Int) + 1
  | _ => 0
/-- The world's part. -/
def CWW (w0 w : World) (B : WB) (n : Nat) (σ : TSt) (m : Nat) : Prop :=
  ∃ V s, WS w0 w B V s ∧ s.val 0 = σ.N ∧ s.val 1 = σ.S ∧ (∀ j, j < n → V.tk.getD (9 * j) 0 = tkOf (σ.ph j)) ∧ (∀ j, j < n → (σ.ph j).busy = true → V.hd = ((9 * j : Nat) : Int)) ∧ ((∀ j, j < n → (σ.ph j).busy = false) → V.hd = -1) ∧ s.n ≤ m ∧ s.cnt ≤ m
structure CW (w0 w : World) (B : WB) (n H : Nat) (bs : Nat → Nat) (σ : TSt) (m : Nat) : Prop where
  wld : CWW w0 w B n σ m
  cl : ∀ j, j < n → ClAt w w0.heap.size (bs j) (9 * j) H (σ.left j) (σ.ph j)
/-- Types of what turns with a client's step. -/
def cTy (T : TypeId) : Bool := wTy T || T == 82 || T == 176 || T == 178
theorem two_fr {w w' : World} {b1 b2 T1 T2 : Nat} {c1 c2 : Array Value} {f1 f2 : Nat × Nat} (h : Two b1 b2 w w') (h1 : w.heap[b1]? = some (.cells c1 T1 f1)) (h2 : w.heap[b2]? = some (.cells c2 T2 f2)) (g1 : cTy T1 = true) (g2 : cTy T2 = true) : Fr cTy true w w' := by
  refine ⟨h.size, fun k cs T fr hk hT => h.cells k cs T fr hk ?_ (fun e => ?_) (fun e => ?_), fun h => by cases h⟩
  · unfold cTy at hT; simp only [Bool.or_eq_false_iff] at hT; exact hT.1.1.1
  · subst e
    have := hk.symm.trans h1; simp only [Option.some.injEq, Obj.cells.injEq] at this
    rw [this.2.1, g1] at hT; cases hT
  · subst e
    have := hk.symm.trans h2; simp only [Option.some.injEq, Obj.cells.injEq] at this
    rw [this.2.1, g2] at hT; cases hT
theorem nine_ne {i j : Nat} (h : i ≠ j) : (some (Value.int .i64 ((9 * i : Nat) : Int)) : Option Value) ≠ some (.int .i64 ((9 * j : Nat) : Int)) := fun e => by
  simp only [Option.some.injEq, Value.int.injEq, true_and] at e; omega
theorem take_ty_ne : (82 : Nat) ≠ 176 := by decide
theorem give_ty_ne : (82 : Nat) ≠ 178 := by decide
theorem tg_ty_ne : (176 : Nat) ≠ 178 := by decide
section
variable {w0 w w' : World} {B : WB} {n H : Nat} {bs : Nat → Nat} {σ : TSt} {m : Nat}
/-- Other clients, beside a step of one, that turned its block and one more. -/
theorem CW.rest (h : CW w0 w B n H bs σ m) {j b2 T2 : Nat} {c2 : Array Value} (hj : j < n) (hf : Two (bs j) b2 w w') (h2 : w.heap[b2]? = some (.cells c2 T2 (0, 0)))
    (hk : (T2 = 82 ∧ b2 = bs j) ∨ (T2 = 176 ∧ c2[0]? = some (.int .i64 ((9 * j : Nat) : Int))) ∨ (T2 = 178 ∧ ∀ i, i < n → i ≠ j → σ.ph i ≠ .give)) (i : Nat) (hi : i < n) (hij : i ≠ j) :
    ClAt w' w0.heap.size (bs i) (9 * i) H (σ.left i) (σ.ph i) := by
  obtain ⟨cj, hcj, hcj0⟩ := (h.cl j hj).blk
  obtain ⟨ci, hci, hci0⟩ := (h.cl i hi).blk
  have hb1 : bs i ≠ bs j := cells_ne hci hcj (.inr (by rw [hci0, hcj0]; exact nine_ne hij))
  refine (h.cl i hi).two hf ⟨hb1, ?_⟩ (fun tb k ht => ⟨cells_ne ht hcj (.inl take_ty_ne.symm), ?_⟩) (fun hg gb hgb => ⟨cells_ne hgb hcj (.inl give_ty_ne.symm), ?_⟩)
  · rcases hk with ⟨_, rfl⟩ | ⟨rfl, _⟩ | ⟨rfl, _⟩
    · exact hb1
    · exact cells_ne hci h2 (.inl take_ty_ne)
    · exact cells_ne hci h2 (.inl give_ty_ne)
  · rcases hk with ⟨_, rfl⟩ | ⟨rfl, h3⟩ | ⟨rfl, _⟩
    · exact cells_ne ht hcj (.inl take_ty_ne.symm)
    · exact cells_ne ht h2 (.inr (by rw [h3]; exact nine_ne hij))
    · exact cells_ne ht h2 (.inl tg_ty_ne)
  · rcases hk with ⟨_, rfl⟩ | ⟨rfl, _⟩ | ⟨rfl, h3⟩
    · exact cells_ne hgb hcj (.inl give_ty_ne.symm)
    · exact cells_ne hgb h2 (.inl tg_ty_ne.symm)
    · exact absurd hg (h3 i hi hij)
theorem getD_set_ne (l : List Int) {a b : Nat} (v : Int) (h : a ≠ b) : (l.set a v).getD b 0 = l.getD b 0 := by
  rw [List.getD_eq_getElem?_getD, List.getD_eq_getElem?_getD, List.getElem?_set_ne h]
theorem getD_set_eq (l : List Int) {a : Nat} (v : Int) (h : a < l.length) : (l.set a v).getD a 0 = v := by
  rw [List.getD_eq_getElem?_getD, List.getElem?_set_self h]; rfl
theorem wu_nat {k : Nat} (h : k < 1000000) : wu ((k : Int) + 1) = ((k + 1 : Nat) : Int) := by rw [wu_eq]; omega

set_option maxHeartbeats 1000000 in
theorem cstep_any {total : Nat} (h : CW w0 w B n H bs σ m) (hI : TInv n H total σ) (ht : total ≤ 32) (hm : m < 9000) (hn : n ≤ 8) (hH : 1 ≤ H ∧ H ≤ 3) (j : Nat) (hj : j < n) :
    Calls Try.prog 53 #[.pointer (some ⟨bs j, 0, none⟩), .pointer (some ⟨B.wb, 0, none⟩)] w fun e w' => e = .returned (.tuple #[]) ∧ CW w0 w' B n H bs (tgo H σ j) (m + 1) ∧ Fr cTy true w w' := by
  obtain ⟨V, s, hW, v0', v1', htk, hb1, hb2, hm1, hm2⟩ := h.wld
  have hr : s.room := by unfold CS.room lim; omega
  have hcl := h.cl j hj
  have hN : σ.N ≤ 32 := by have := hI.sum; omega
  have hS : σ.S ≤ 32 := by have := hI.le; rcases hI.lock with ⟨_, _, _, _, h⟩ | ⟨_, h⟩ <;> omega
  have h9 : 9 * j < 64 := by omega
  obtain ⟨cj, hcj, hcj0⟩ := hcl.blk
  cases hp : σ.ph j with
  | give =>
    rw [hp] at hcl
    obtain ⟨hlo, hs, gb, hC, hG, hlg⟩ := hcl
    have hone : ∀ i, i < n → i ≠ j → (σ.ph i).busy = false := fun i hi hij => by
      rcases hI.lock with ⟨j', _, _, hu, _⟩ | ⟨hu, _⟩
      · cases hbi : (σ.ph i).busy
        · rfl
        · exact absurd ((hu i hi hbi).trans (hu j hj (by rw [hp]; rfl)).symm) hij
      · exact hu i hi
    refine (cstep_give hW hr hlo hC hG hlg).mono fun e w' ⟨he, hw, hc', hf⟩ => ⟨he, ⟨⟨_, _, hw, ?_, ?_, fun i hi => ?_, fun i hi hb => ?_, fun _ => rfl, by simp [CS.acc]; omega, by simp [CS.acc]; omega⟩, fun i hi => ?_⟩, two_fr hf hcj hG rfl rfl⟩
    · simp only [tgo, hp]; rw [CS.acc_val _ _ _ _ (by decide)]; exact v0'
    · simp only [tgo, hp]; rw [CS.acc_self, v1', wu_nat (by omega)]
    · simp only [tgo, hp]
      by_cases e : i = j
      · subst e; rw [tupd_same]; have := htk i hi; rw [hp] at this; exact this
      · rw [tupd_other _ _ e]; exact htk i hi
    · simp only [tgo, hp] at hb
      by_cases e : i = j
      · subst e; rw [tupd_same] at hb; cases hb
      · rw [tupd_other _ _ e, hone i hi e] at hb; cases hb
    · simp only [tgo, hp]
      by_cases e : i = j
      · subst e; rw [tupd_same]; exact ⟨hlo, hs, hc'⟩
      · rw [tupd_other _ _ e]
        exact h.rest hj hf hG (.inr (.inr ⟨rfl, fun i hi hij hg => by have := hone i hi hij; rw [hg] at this; cases this⟩)) i hi e
  | hold g =>
    rw [hp] at hcl
    obtain ⟨hlo, hC⟩ := hcl
    obtain ⟨hg1, hg2⟩ := hI.has j hj g hp
    have hbz : (if g ≤ 1 then Ph.give else Ph.hold (g - 1)).busy = true := by split <;> rfl
    have hbu : ∀ i, (tupd σ.ph j (if g ≤ 1 then Ph.give else Ph.hold (g - 1)) i).busy = (σ.ph i).busy := fun i => by
      by_cases e : i = j
      · subst e; rw [tupd_same, hbz, hp]; rfl
      · rw [tupd_other _ _ e]
    have htz : ∀ i, tkOf (tupd σ.ph j (if g ≤ 1 then Ph.give else Ph.hold (g - 1)) i) = tkOf (σ.ph i) := fun i => by
      by_cases e : i = j
      · subst e; rw [tupd_same, hp]; split <;> rfl
      · rw [tupd_other _ _ e]
    have hwld : ∀ w' : World, WS w0 w' B V (s.acc 1 6 (s.val 6)) → CWW w0 w' B n (tgo H σ j) (m + 1) := fun w' hw => by
      refine ⟨_, _, hw, ?_, ?_, fun i hi => ?_, fun i hi hb => ?_, fun hz => ?_, by simp [CS.acc]; omega, by simp [CS.acc]; omega⟩
      · simp only [tgo, hp]; rw [CS.acc_val _ _ _ _ (by decide)]; exact v0'
      · simp only [tgo, hp]; rw [CS.acc_val _ _ _ _ (by decide)]; exact v1'
      · simp only [tgo, hp]; rw [htz]; exact htk i hi
      · simp only [tgo, hp] at hb; rw [hbu] at hb; exact hb1 i hi hb
      · simp only [tgo, hp, hbu] at hz; exact hb2 hz
    by_cases hg : g ≤ 1
    · obtain rfl : g = 1 := by omega
      refine (cstep_last hW hr hlo hC).mono fun e w' ⟨he, hw, ⟨gb, hc', hG, hlg⟩, hf⟩ => ⟨he, ⟨hwld w' hw, fun i hi => ?_⟩, two_fr hf hcj hcj rfl rfl⟩
      simp only [tgo, hp]
      by_cases e : i = j
      · subst e; rw [tupd_same, if_pos (by omega)]; exact ⟨hlo, 0, gb, hc', hG, hlg⟩
      · rw [tupd_other _ _ e]; exact h.rest hj hf hcj (.inl ⟨rfl, rfl⟩) i hi e
    · refine (cstep_more hW hr hlo (by omega) hC).mono fun e w' ⟨he, hw, hc', hf⟩ => ⟨he, ⟨hwld w' hw, fun i hi => ?_⟩, two_fr hf hcj hcj rfl rfl⟩
      simp only [tgo, hp]
      by_cases e : i = j
      · subst e; rw [tupd_same, if_neg hg]
        refine ⟨hlo, ?_⟩
        rw [show ((g - 1 : Nat) : Int) = (g : Int) - 1 by omega]
        exact hc'
      · rw [tupd_other _ _ e]; exact h.rest hj hf hcj (.inl ⟨rfl, rfl⟩) i hi e
  | wait k =>
    rw [hp] at hcl
    obtain ⟨hlo, hs, tb, hC, hT, hlt⟩ := hcl
    by_cases hk : k = σ.S
    · subst hk
      obtain ⟨w1, w2, w3⟩ := hI.waits j hj _ hp
      have hone : ∀ i, i < n → (σ.ph i).busy = false := by
        rcases hI.lock with ⟨_, _, _, _, hs⟩ | ⟨hu, _⟩
        · omega
        · exact hu
      have hT' : TakeAt w tb ((9 * j : Nat) : Int) (s.val 1) true 2 := by rw [v1']; exact hT
      refine (cstep_yes hW hr h9 hlo hC hT' hlt).mono fun e w' ⟨he, hw, hc', hf⟩ => ⟨he, ⟨⟨_, _, hw, ?_, ?_, fun i hi => ?_, fun i hi hb => ?_, fun hz => ?_, by simp [CS.acc]; omega, by simp [CS.acc]; omega⟩, fun i hi => ?_⟩, two_fr hf hcj hT rfl rfl⟩
      · simp only [tgo, hp, if_pos]; rw [CS.acc_val _ _ _ _ (by decide)]; exact v0'
      · simp only [tgo, hp, if_pos]; rw [CS.acc_self]; exact v1'
      · simp only [tgo, hp, if_pos]
        by_cases e : i = j
        · subst e; rw [tupd_same, getD_set_eq _ _ (by rw [hW.tkl]; exact h9)]; rfl
        · rw [tupd_other _ _ e, getD_set_ne _ _ (by omega)]; exact htk i hi
      · simp only [tgo, hp, if_pos] at hb
        by_cases e : i = j
        · rw [e]
        · rw [tupd_other _ _ e, hone i hi] at hb; cases hb
      · simp only [tgo, hp, if_pos] at hz
        have := hz j hj; rw [tupd_same] at this; cases this
      · simp only [tgo, hp, if_pos]
        by_cases e : i = j
        · subst e; rw [tupd_same]; exact ⟨hlo, hc'⟩
        · rw [tupd_other _ _ e]
          exact h.rest hj hf hT (.inr (.inl ⟨rfl, rfl⟩)) i hi e
    · refine (cstep_no hW hr hC hT (by rw [v1']; omega)).mono fun e w' ⟨he, hw, hc', ht', hf⟩ => ⟨he, ⟨⟨_, _, hw, ?_, ?_, fun i hi => ?_, fun i hi hb => ?_, fun hz => ?_, by simp [CS.acc]; omega, by simp [CS.acc]; omega⟩, fun i hi => ?_⟩, two_fr hf hcj hT rfl rfl⟩
      · simp only [tgo, hp, if_neg hk]; rw [CS.acc_val _ _ _ _ (by decide)]; exact v0'
      · simp only [tgo, hp, if_neg hk]; rw [CS.acc_self]; exact v1'
      · simp only [tgo, hp, if_neg hk]; exact htk i hi
      · simp only [tgo, hp, if_neg hk] at hb; exact hb1 i hi hb
      · simp only [tgo, hp, if_neg hk] at hz; exact hb2 hz
      · simp only [tgo, hp, if_neg hk]
        by_cases e : i = j
        · subst e; rw [hp]; exact ⟨hlo, hs, tb, hc', ht', hlt⟩
        · exact h.rest hj hf hT (.inr (.inl ⟨rfl, rfl⟩)) i hi e
  | idle =>
    rw [hp] at hcl
    obtain ⟨hlo, hs, hC⟩ := hcl
    by_cases hl : 0 < σ.left j
    · obtain ⟨L, hL⟩ : ∃ L, σ.left j = L + 1 := ⟨σ.left j - 1, by omega⟩
      have hL32 : L < 100 := by
        have h1 := hI.sum
        have h2 : ∀ m, j < m → σ.left j ≤ sumTo σ.left m := fun m => by
          induction m with
          | zero => intro h; omega
          | succ m ih =>
            intro h
            simp only [sumTo]
            by_cases e : j = m
            · subst e; omega
            · have := ih (by omega); omega
        have := h2 n hj
        omega
      rw [hL] at hC
      refine (cstep_draw hW hr h9 hL32 hlo hC).mono fun e w' ⟨he, hw, ⟨tb, hc', ht', hlt⟩, hf⟩ => ⟨he, ⟨⟨_, _, hw, ?_, ?_, fun i hi => ?_, fun i hi hb => ?_, fun hz => ?_, by simp [CS.acc]; omega, by simp [CS.acc]; omega⟩, fun i hi => ?_⟩, two_fr hf hcj hcj rfl rfl⟩
      · simp only [tgo, hp, if_pos hl]; rw [CS.acc_self, v0', wu_nat (by omega)]
      · simp only [tgo, hp, if_pos hl]; rw [CS.acc_val _ _ _ _ (by decide)]; exact v1'
      · simp only [tgo, hp, if_pos hl]
        by_cases e : i = j
        · subst e; rw [tupd_same, getD_set_eq _ _ (by rw [hW.tkl]; exact h9), v0', wu_nat (by omega)]; simp [tkOf]
        · rw [tupd_other _ _ e, getD_set_ne _ _ (by omega)]; exact htk i hi
      · simp only [tgo, hp, if_pos hl] at hb
        by_cases e : i = j
        · subst e; rw [tupd_same] at hb; cases hb
        · rw [tupd_other _ _ e] at hb; exact hb1 i hi hb
      · simp only [tgo, hp, if_pos hl] at hz
        refine hb2 fun i hi => ?_
        by_cases e : i = j
        · subst e; rw [hp]; rfl
        · have := hz i hi; rw [tupd_other _ _ e] at this; exact this
      · simp only [tgo, hp, if_pos hl]
        by_cases e : i = j
        · subst e; rw [tupd_same, tupd_same]
          refine ⟨hlo, hs, tb, ?_, by rw [← v0']; exact ht', hlt⟩
          rw [hL]; exact hc'
        · rw [tupd_other _ _ e, tupd_other _ _ e]
          exact h.rest hj hf hcj (.inl ⟨rfl, rfl⟩) i hi e
    · have hl0 : σ.left j = 0 := by omega
      rw [hl0] at hC
      refine (cstep_done hC).mono fun e w' ⟨he, hw⟩ => ?_
      subst hw
      have hg : tgo H σ j = σ := by simp only [tgo, hp, if_neg hl]
      rw [hg]
      exact ⟨he, ⟨⟨V, s, hW, v0', v1', htk, hb1, hb2, by omega, by omega⟩, h.cl⟩, Fr.refl _ _ _⟩
end
end Go.Proofs.Ytddflihgadlafaa
