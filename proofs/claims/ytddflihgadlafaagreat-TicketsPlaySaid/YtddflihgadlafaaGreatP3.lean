/-
  Texts of this prover, merged: Tickets, TicketsDo, TicketsNil, RefTickets, TicketsBoth, TicketsOps, TicketsStep.
-/
import Derived.Test.YtddflihgadlafaaGreatBegin0
import Derived.Test.YtddflihgadlafaaGreatP1
import Derived.Laws.EntriesVeiled
/-
  Tickets: a Take, a Give, who waits.
-/
namespace Go.Proofs.YtddflihgadlafaaGreat
open Go.RowKit
set_option linter.unusedVariables false

/-- Of the old blocks only b, and such of some types, have turned. -/
structure Fx (K : TypeId → Bool) (mp : Bool) (b : Nat) (w w' : World) : Prop where
  size : w.heap.size ≤ w'.heap.size
  cells : ∀ (k : Nat) (cs : Array Value) (T : TypeId) (fr : Nat × Nat), w.heap[k]? = some (.cells cs T fr) → K T = false → k ≠ b → w'.heap[k]? = some (.cells cs T fr)
  map : mp = false → ∀ (k : Nat) (es : Array MapEntry) (cl : Nat), w.heap[k]? = some (.map es cl) → k ≠ b → w'.heap[k]? = some (.map es cl)
theorem Fr.fx {K : TypeId → Bool} {mp : Bool} {w w' : World} (h : Fr K mp w w') (b : Nat) : Fx K mp b w w' := ⟨h.size, fun k cs T fr h1 h2 _ => h.cells k cs T fr h1 h2, fun hm k es cl h1 _ => h.map hm k es cl h1⟩
theorem Fx.trans {K : TypeId → Bool} {mp : Bool} {b : Nat} {a c d : World} (h : Fx K mp b a c) (k : Fx K mp b c d) : Fx K mp b a d :=
  ⟨Nat.le_trans h.size k.size, fun i cs T fr hi hT hb => k.cells i cs T fr (h.cells i cs T fr hi hT hb) hT hb, fun hm i es cl hi hb => k.map hm i es cl (h.map hm i es cl hi hb) hb⟩
theorem set_fx (K : TypeId → Bool) (mp : Bool) (w : World) (b o : Nat) (v : Value) : Fx K mp b w (w.setCell ⟨b, o, none⟩ v) :=
  ⟨by simp [World.setCell], fun k cs T fr h _ hb => (Below.heap_setCell _ _ _ _ hb).trans h, fun _ k es cl h hb => (Below.heap_setCell _ _ _ _ hb).trans h⟩
theorem Fx.fr {K : TypeId → Bool} {mp : Bool} {b : Nat} {w w' : World} (h : Fx K mp b w w') {cs : Array Value} {T : TypeId} {fr : Nat × Nat} (hb : w.heap[b]? = some (.cells cs T fr)) : Fr (fun x => K x || x == T) mp w w' := by
  refine ⟨h.size, fun k cs2 T2 fr2 h2 hT => ?_, fun hm k es cl h2 => h.map hm k es cl h2 fun c => ?_⟩
  · simp only [Bool.or_eq_false_iff] at hT
    refine h.cells k cs2 T2 fr2 h2 hT.1 fun c => ?_
    subst c
    have := hb.symm.trans h2; simp only [Option.some.injEq, Obj.cells.injEq] at this
    have h3 := hT.2; rw [this.2.1] at h3; simp at h3
  · subst c; rw [hb] at h2; cases h2

def doV (b : Nat) : Nat → Value
  | 0 => .nilFunc
  | 1 => .func (.func 87) #[.pointer (some ⟨b, 0, none⟩)] #[]
  | _ => .func (.func 145) #[.pointer (some ⟨b, 0, none⟩)] #[]
/-- A Take, at its line. -/
def TakeAt (w : World) (b : Nat) (t k : Int) (d : Bool) (ln : Nat) : Prop := w.heap[b]? = some (.cells #[.int .i64 t, .int .u64 k, .bool d, doV b ln] 190 (0, 0))
theorem TakeAt.lt {w : World} {b : Nat} {t k : Int} {d : Bool} {ln : Nat} (h : TakeAt w b t k d ln) : b < w.heap.size := (Array.getElem?_eq_some_iff.1 h).1
theorem TakeAt.below {w w' : World} {b : Nat} {t k : Int} {d : Bool} {ln : Nat} (h : TakeAt w b t k d ln) (hb : Below w.heap.size w w') : TakeAt w' b t k d ln := (hb.block _ h.lt).trans h
def GiveAt (w : World) (b : Nat) (l : Int) : Prop := w.heap[b]? = some (.cells #[.int .i64 l] 195 (0, 0))
theorem GiveAt.lt {w : World} {b : Nat} {l : Int} (h : GiveAt w b l) : b < w.heap.size := (Array.getElem?_eq_some_iff.1 h).1

theorem thread_in (t : Nat) (h : t < 64) (w : World) : Calls Tryz.prog 86 #[.int .i64 t] w fun e w' => e = .returned (.bool true) ∧ w' = w := by
  have h1 : decide ((t : Int) < 64) = true := by simp; omega
  have h0 : decide ((0 : Int) ≤ (t : Int)) = true := by simp
  clear h
  go_enter Tryz.func86, Tryz.ntmps86
  go_wp2
  go_ret
  exact ⟨rfl, rfl⟩
theorem thread_out (t : Int) (h : t < 0 ∨ 63 < t) (w : World) : Calls Tryz.prog 86 #[.int .i64 t] w fun e w' => e = .returned (.bool false) ∧ w' = w := by
  rcases h with h | h
  · have h0 : decide (0 ≤ t) = false := by simp; omega
    clear h
    go_enter Tryz.func86, Tryz.ntmps86
    go_wp2
    go_ret
    exact ⟨rfl, rfl⟩
  · have h0 : decide (0 ≤ t) = true := by simp; omega
    have h1 : decide (t < 64) = false := by simp; omega
    clear h
    go_enter Tryz.func86, Tryz.ntmps86
    go_wp2
    go_ret
    exact ⟨rfl, rfl⟩
theorem mkfunc (fn : Fn) (first cap : Array Value) (w : World) : (Instr.makeFunc fn first cap).run Tryz.prog w = .ok (.func fn first cap) w := rfl
theorem newtake_in (t : Nat) (h : t < 64) (w : World) : Calls Tryz.prog 18 #[.int .i64 t] w fun e w' => e = .returned (.pointer (some ⟨w.heap.size, 0, none⟩)) ∧ TakeAt w' w.heap.size t 0 false 1 ∧ Below w.heap.size w w' := by
  have ht := thread_in t h
  have hmf := mkfunc
  clear h
  go_enter Tryz.func18, Tryz.ntmps18
  go_wp2_with (go_at_call 86; refine (ht _).mono ?_; rintro e w1 ⟨rfl, rfl⟩)
  go_ret
  exact ⟨rfl, heap_alloc_new w _, below_alloc' _ _⟩
theorem newtake_out (t : Int) (h : t < 0 ∨ 63 < t) (w : World) : Calls Tryz.prog 18 #[.int .i64 t] w fun e w' => e = .returned (.pointer (some ⟨w.heap.size, 0, none⟩)) ∧ TakeAt w' w.heap.size t 0 false 0 ∧ Below w.heap.size w w' := by
  have ht := thread_out t h
  clear h
  go_enter Tryz.func18, Tryz.ntmps18
  go_wp2_with (go_at_call 86; refine (ht _).mono ?_; rintro e w1 ⟨rfl, rfl⟩)
  go_ret
  exact ⟨rfl, heap_alloc_new w _, below_alloc' _ _⟩
theorem newgive (w : World) : Calls Tryz.prog 20 #[] w fun e w' => e = .returned (.pointer (some ⟨w.heap.size, 0, none⟩)) ∧ GiveAt w' w.heap.size 1 ∧ Below w.heap.size w w' := by
  go_enter Tryz.func20, Tryz.ntmps20
  go_wp2
  go_ret
  exact ⟨rfl, heap_alloc_new w _, below_alloc' _ _⟩
theorem over0 (w : World) (b : Nat) (c3 : w.cell? ⟨b, 3, none⟩ = some (.nilFunc)) : Calls Tryz.prog 94 #[.pointer (some ⟨b, 0, none⟩)] w fun e w' => e = .returned (.bool true) ∧ w' = w := by
  have hrun : Sem.run Tryz.prog (binOp BinOp.eql 188 (.nilFunc) Value.nilFunc) w = .ok (.bool true) w := by kernel_rfl
  go_enter Tryz.func94, Tryz.ntmps94
  go_wp2
  go_ret
  exact ⟨rfl, rfl⟩
theorem over1 (w : World) (b : Nat) (c3 : w.cell? ⟨b, 3, none⟩ = some (.func (.func 87) #[.pointer (some ⟨b, 0, none⟩)] #[])) : Calls Tryz.prog 94 #[.pointer (some ⟨b, 0, none⟩)] w fun e w' => e = .returned (.bool false) ∧ w' = w := by
  have hrun : Sem.run Tryz.prog (binOp BinOp.eql 188 (.func (.func 87) #[.pointer (some ⟨b, 0, none⟩)] #[]) Value.nilFunc) w = .ok (.bool false) w := by kernel_rfl
  go_enter Tryz.func94, Tryz.ntmps94
  go_wp2
  go_ret
  exact ⟨rfl, rfl⟩
theorem over2 (w : World) (b : Nat) (c3 : w.cell? ⟨b, 3, none⟩ = some (.func (.func 145) #[.pointer (some ⟨b, 0, none⟩)] #[])) : Calls Tryz.prog 94 #[.pointer (some ⟨b, 0, none⟩)] w fun e w' => e = .returned (.bool false) ∧ w' = w := by
  have hrun : Sem.run Tryz.prog (binOp BinOp.eql 188 (.func (.func 145) #[.pointer (some ⟨b, 0, none⟩)] #[]) Value.nilFunc) w = .ok (.bool false) w := by kernel_rfl
  go_enter Tryz.func94, Tryz.ntmps94
  go_wp2
  go_ret
  exact ⟨rfl, rfl⟩
theorem tover {w : World} {b : Nat} {t k : Int} {d : Bool} {ln : Nat} (h : TakeAt w b t k d ln) (o : Bool) (ho : o = decide (ln = 0)) : Calls Tryz.prog 94 #[.pointer (some ⟨b, 0, none⟩)] w fun e w' => e = .returned (.bool o) ∧ w' = w := by
  rcases ln with _ | _ | n
  · rw [show o = true from ho]; exact over0 w b (hcell h 3)
  · rw [show o = false from ho]; exact over1 w b (hcell h 3)
  · rw [show o = false by rw [ho]; simp]; exact over2 w b (hcell h 3)
theorem gover {w : World} {b : Nat} {l : Int} (h : GiveAt w b l) (o : Bool) (ho : (l == 0) = o) : Calls Tryz.prog 92 #[.pointer (some ⟨b, 0, none⟩)] w fun e w' => e = .returned (.bool o) ∧ w' = w := by
  have c3 : w.cell? ⟨b, 0, none⟩ = some (.int .i64 l) := hcell h 0
  clear h
  go_enter Tryz.func92, Tryz.ntmps92
  go_wp2
  go_ret
  exact ⟨rfl, rfl⟩
theorem got_any {w : World} {b : Nat} {t k : Int} {d : Bool} {ln : Nat} (h : TakeAt w b t k d ln) : Calls Tryz.prog 93 #[.pointer (some ⟨b, 0, none⟩)] w fun e w' => e = .returned (.tuple #[.int .u64 k, .bool d]) ∧ Below w.heap.size w w' := by
  have x1 := fun st : ExtW w => st.cell (hcell h 1)
  have x2 := fun st : ExtW w => st.cell (hcell h 2)
  clear h
  go_enter Tryz.func93, Tryz.ntmps93
  go_wp2
  refine wp_region_ext (by kernel_rfl) (by kernel_rfl) ?_
  repeat (go_big_quiet_step (fail))
  refine wpQuiet_nil ?_
  rintro W ⟨⟨W2, hW⟩, rfl⟩
  clear x1 x2
  go_wp2
  go_ret2
  exact ⟨rfl, hW⟩

/-- The worlds' types, and a Take's. -/
theorem WS.cellb {w0 w : World} {B : WB} {V : WV} {s : CS} (h : WS w0 w B V s) (t : Nat) (ht : t < 64) : w.cell? ⟨B.wb, 8 + t, none⟩ = some (.int .u64 (V.tk.getD t 0)) := (h.cell (8 + t)).trans (val_tkat B V h.tkl t ht)
theorem WS.hcell' {w0 w : World} {B : WB} {V : WV} {s : CS} (h : WS w0 w B V s) : w.cell? ⟨B.wb, 72, none⟩ = some (.int .i64 V.hd) := (h.cell 72).trans (val_at B V h.tkl).2.2.2.2.2
theorem WS.frz {w0 w : World} {B : WB} {V : WV} {s : CS} (h : WS w0 w B V s) (o : Nat) : w.frozen? ⟨B.wb, o, none⟩ = false := hfrz h.blk o
theorem WS.fx {w0 w w' : World} {B : WB} {V : WV} {s : CS} {K : TypeId → Bool} {b : Nat} (h : WS w0 w B V s) (hf : Fx K false b w w') (hK : ∀ T, wTy T = true → K T = false) {cs : Array Value} {T : TypeId} {fr : Nat × Nat} (hb : w.heap[b]? = some (.cells cs T fr)) (hT : wTy T = false) (hB : Below w0.heap.size w0 w') : WS w0 w' B V s :=
  h.fr (hf.fr hb) (fun x hx => by simp only [Bool.or_eq_false_iff]; exact ⟨hK x hx, by cases hxT : (x == T); rfl; rw [beq_iff_eq] at hxT; subst hxT; rw [hx] at hT; cases hT⟩) hB
theorem set_take {w0 w : World} {B : WB} {V : WV} {s : CS} {b o : Nat} {cs : Array Value} {T : TypeId} (h : WS w0 w B V s) (hb : w.heap[b]? = some (.cells cs T (0, 0))) (hT : wTy T = false) (hlo : w0.heap.size ≤ b) (v : Value) : WS w0 (w.setCell ⟨b, o, none⟩ v) B V s :=
  h.fx (set_fx (fun _ => false) false w b o v) (fun _ _ => rfl) hb hT (keeps_below (setCell_keeps w b o v) h.below h.below.size fun k e => e ▸ hlo)

set_option maxRecDepth 10000 in
set_option maxHeartbeats 1000000 in
theorem draw_any {w0 w : World} {B : WB} {V : WV} {s : CS} {b t : Nat} {k : Int} {d : Bool} (h : WS w0 w B V s) (hr : s.room) (hT : TakeAt w b t k d 1) (hlo : w0.heap.size ≤ b) (ht : t < 64) :
    Calls Tryz.prog 87 #[.pointer (some ⟨b, 0, none⟩), .pointer (some ⟨B.wb, 0, none⟩)] w fun e w' => e = .returned (.tuple #[]) ∧ WS w0 w' B { V with tk := V.tk.set t (wu (s.val 0 + 1)) } (s.acc 4 0 (wu (s.val 0 + 1))) ∧ TakeAt w' b t (s.val 0) true 2 ∧ Fx wTy true b w w' := by
  have c0 := h.c0
  have hadd := h.add hr 0 (by decide) 1
  have hmf := mkfunc
  have H := Lib.hid h; have HT := Lib.hid hT
  clear h hr hT
  go_enter Tryz.func87, Tryz.ntmps87
  go_upto_region 1 with (go_at_call 108; refine hadd.mono ?_; rintro e w1 ⟨rfl, h1, f1⟩; have ht1 : TakeAt w1 b t k d 1 := f1.cells _ _ _ _ HT.out rfl; have y1 := hcell ht1 1; have y2 := hcell ht1 2; have yf := hfrz ht1; have H1 := Lib.hid h1; have F1 := Lib.hid f1; have HT1 := Lib.hid ht1; clear h1 f1 ht1 hadd c0)
  have hq2 := setCell_same (setCell_same HT1.out 1 (.int .u64 (s.val 0))) 2 (.bool true)
  have hq2 : ((w1.setCell ⟨b, 1, none⟩ (.int .u64 (s.val 0))).setCell ⟨b, 2, none⟩ (.bool true)).heap[b]? = some (.cells #[.int .i64 t, .int .u64 (s.val 0), .bool true, doV b 1] 190 (0, 0)) := hq2
  have h2 := set_take (o := 2) (set_take (o := 1) H1.out HT1.out rfl hlo (.int .u64 (s.val 0))) (setCell_same HT1.out 1 (.int .u64 (s.val 0))) rfl hlo (.bool true)
  have f2 : Fx wTy true b w ((w1.setCell ⟨b, 1, none⟩ (.int .u64 (s.val 0))).setCell ⟨b, 2, none⟩ (.bool true)) := ((F1.out.fx b).trans (set_fx _ _ _ _ _ _)).trans (set_fx _ _ _ _ _ _)
  clear y1 y2 yf HT1 H1 F1
  generalize (w1.setCell ⟨b, 1, none⟩ (.int .u64 (s.val 0))).setCell ⟨b, 2, none⟩ (.bool true) = W2 at *
  obtain ⟨nv, hnv⟩ : ∃ nv, nv = wu (s.val 0 + 1) := ⟨_, rfl⟩
  have e1 : IntKind.u64.wrap (s.val 0 + 1) = nv := hnv.symm
  rw [← hnv] at h2
  have HNV := Lib.hid hnv
  clear hnv
  have x0 := fun st : ExtW W2 => st.cell (hcell hq2 0)
  have x1 := fun st : ExtW W2 => st.cell (hcell hq2 1)
  have ht' : (t : Int) < 64 := by omega
  have H2 := Lib.hid h2; have HQ2 := Lib.hid hq2; have F2 := Lib.hid f2
  clear h2 hq2 f2
  refine wp_region_ext_tail 13 (by kernel_rfl) (by kernel_rfl) ?_
  simp only [List.take_succ_cons, List.take_zero, List.drop_succ_cons, List.drop_zero]
  repeat (go_big_quiet_step (fail))
  refine wpQuiet_nil ?_
  rintro W3 ⟨⟨W4, hW⟩, rfl⟩
  clear x0 x1
  have h3 := H2.out.keep hW
  have hq3 := (hW.block _ (Array.getElem?_eq_some_iff.1 HQ2.out).1).trans HQ2.out
  have c1 := h3.cellb t ht
  have cf := h3.frz (8 + t)
  obtain ⟨h4, f4⟩ := h3.set (8 + t) (.int .u64 nv) { V with tk := V.tk.set t nv } (val_tk B V h3.tkl t ht nv) rfl rfl (by simp; exact h3.tkl)
  have F4 : Hid (Fx wTy true b w (W3.setCell ⟨B.wb, 8 + t, none⟩ (.int .u64 nv))) := (F2.out.trans ((below_fr hW wTy true).fx b)).trans (f4.fx b)
  have hq4 := f4.cells _ _ _ _ hq3 rfl
  have H4 := Lib.hid h4; have HQ4 := Lib.hid hq4
  clear h3 hq3 h4 f4 hq4 hW
  go_upto_region 2 with (fail)
  generalize W3.setCell ⟨B.wb, 8 + t, none⟩ (.int .u64 nv) = W5 at *
  have y3 := hcell HQ4.out 3
  have yf := hfrz HQ4.out 3
  go_wp2
  go_end0
  rw [← show nv = wu (s.val 0 + 1) from HNV.out]
  exact ⟨rfl, set_take (o := 3) H4.out HQ4.out rfl hlo _, setCell_same HQ4.out 3 _, F4.out.trans (set_fx _ _ _ _ _ _)⟩

theorem look_mid {w0 w w2 : World} {B : WB} {V : WV} {s2 : CS} {b t : Nat} {d : Bool} {k : Int} (H2 : WS w0 w2 B V s2) (HT : TakeAt w2 b t k d 2) (ht : t < 64) (F2 : Fr wTy true w.drew w2) :
    WS w0 ((w2.setCell ⟨B.wb, 8 + t, none⟩ (.int .u64 0)).setCell ⟨B.wb, 72, none⟩ (.int .i64 t)).drew B { V with tk := V.tk.set t 0, hd := t } s2 ∧ TakeAt ((w2.setCell ⟨B.wb, 8 + t, none⟩ (.int .u64 0)).setCell ⟨B.wb, 72, none⟩ (.int .i64 t)).drew b t k d 2 ∧
    Fx wTy true b w ((w2.setCell ⟨B.wb, 8 + t, none⟩ (.int .u64 0)).setCell ⟨B.wb, 72, none⟩ (.int .i64 t)).drew := by
  obtain ⟨h4, f4⟩ := H2.set (8 + t) (.int .u64 0) { V with tk := V.tk.set t 0 } (val_tk B V H2.tkl t ht 0) rfl rfl (by simp; exact H2.tkl)
  obtain ⟨h5, f5⟩ := h4.set 72 (.int .i64 t) { V with tk := V.tk.set t 0, hd := t } (val_hd B _ h4.tkl t) rfl rfl (by simp; exact H2.tkl)
  have f6 := F2.trans (f4.trans f5)
  exact ⟨h5.keep (Below.refl _ _).drew, (f4.trans f5).cells _ _ _ _ HT rfl, ⟨f6.size, fun k cs T fr h1 h2 _ => f6.cells k cs T fr h1 h2, fun h => by cases h⟩⟩
set_option maxRecDepth 10000 in
set_option maxHeartbeats 1000000 in
theorem look_yes {w0 w : World} {B : WB} {V : WV} {s : CS} {b t : Nat} {d : Bool} (h : WS w0 w B V s) (hr : s.room) (hT : TakeAt w b t (s.val 1) d 2) (hlo : w0.heap.size ≤ b) (ht : t < 64) :
    Calls Tryz.prog 145 #[.pointer (some ⟨b, 0, none⟩), .pointer (some ⟨B.wb, 0, none⟩)] w fun e w' => e = .returned (.tuple #[]) ∧ WS w0 w' B { V with tk := V.tk.set t 0, hd := t } (s.acc 1 1 (s.val 1)) ∧ TakeAt w' b t (s.val 1) d 0 ∧ Fx wTy true b w w' := by
  have c0 := h.c0
  have x0 := fun st : ExtW w => st.cell c0
  have hld : ∀ W, Below w.heap.size w W → Calls Tryz.prog 74 #[.pointer (some ⟨B.cb, 0, none⟩), .int .u64 1] W fun e w' => e = .returned (.int .u64 (s.val 1)) ∧ WS w0 w' B V (s.acc 1 1 (s.val 1)) ∧ Fr wTy true W w' := fun W hW => (h.keep hW).load hr 1 (by decide)
  have H := Lib.hid h; have HT := Lib.hid hT; have HL := Lib.hid hld
  clear h hr hT hld c0
  have hd0 := H.out.keep (Below.refl w.heap.size w).drew
  have y0 : w.drew.cell? ⟨B.wb, 0, none⟩ = some (.pointer (some ⟨B.cb, 0, none⟩)) := hd0.c0
  have y1 : w.drew.cell? ⟨b, 1, none⟩ = some (.int .u64 (s.val 1)) := hcell (w := w.drew) (HT.out) 1
  have hlw := HL.out w.drew (Below.refl w.heap.size w).drew
  clear x0 hd0
  go_enter Tryz.func145, Tryz.ntmps145
  go_wp2_with fail
  go_region_with (go_at_call 74; refine hlw.mono ?_; rintro e w2 ⟨rfl, h2, f2⟩; have HT2 : Hid (TakeAt w2 b t (s.val 1) d 2) := f2.cells _ _ _ _ HT.out rfl; have z1 := hcell HT2.out 1; have H2 := Lib.hid h2; have F2 := Lib.hid f2; clear h2 f2 y0 y1 hlw)
  all_goals (have k0 := hcell HT2.out 0; have k3 := hcell HT2.out 3; have kf := hfrz HT2.out; have g8 := H2.out.cellb t ht; have g72 := H2.out.hcell'; have gf := H2.out.frz; have ht' : (t : Int) < 64 := (by omega); clear z1)
  all_goals go_wp2_with fail
  all_goals (have k0 : w2.drew.cell? ⟨b, 0, none⟩ = some (.int .i64 t) := hcell HT2.out 0; have k3 : w2.drew.cell? ⟨b, 3, none⟩ = some (doV b 2) := hcell HT2.out 3; have kf : ∀ o, w2.drew.frozen? ⟨b, o, none⟩ = false := hfrz HT2.out; have g8 : w2.drew.cell? ⟨B.wb, 8 + t, none⟩ = some (.int .u64 (V.tk.getD t 0)) := H2.out.cellb t ht; have g72 : w2.drew.cell? ⟨B.wb, 72, none⟩ = some (.int .i64 V.hd) := H2.out.hcell'; have gf : ∀ o, w2.drew.frozen? ⟨B.wb, o, none⟩ = false := H2.out.frz)
  all_goals (go_region_with (fail))
  all_goals (obtain ⟨h5, t5, f5⟩ := look_mid H2.out HT2.out ht F2.out)
  all_goals (have H5 := Lib.hid h5; have T5 := Lib.hid t5; have F5 := Lib.hid f5)
  all_goals (clear h5 t5 f5 H2 HT2 F2 k0 k3 kf g8 g72 gf)
  all_goals (generalize ((w2.setCell ⟨B.wb, 8 + t, none⟩ (.int .u64 0)).setCell ⟨B.wb, 72, none⟩ (.int .i64 t)).drew = W5 at *)
  all_goals (have y3 := hcell T5.out 3; have yf := hfrz T5.out 3)
  all_goals go_wp2
  all_goals go_end0
  all_goals exact ⟨rfl, set_take (o := 3) H5.out T5.out rfl hlo _, setCell_same T5.out 3 _, F5.out.trans (set_fx _ _ _ _ _ _)⟩
set_option maxRecDepth 10000 in
set_option maxHeartbeats 1000000 in
theorem look_no {w0 w : World} {B : WB} {V : WV} {s : CS} {b t : Nat} {d : Bool} {k : Int} (h : WS w0 w B V s) (hr : s.room) (hT : TakeAt w b t k d 2) (hk : s.val 1 ≠ k) :
    Calls Tryz.prog 145 #[.pointer (some ⟨b, 0, none⟩), .pointer (some ⟨B.wb, 0, none⟩)] w fun e w' => e = .returned (.tuple #[]) ∧ WS w0 w' B V (s.acc 1 1 (s.val 1)) ∧ TakeAt w' b t k d 2 ∧ Fx wTy true b w w' := by
  have hbk : (s.val 1 == k) = false := beq_eq_false_iff_ne.2 hk
  have hld : ∀ W, Below w.heap.size w W → Calls Tryz.prog 74 #[.pointer (some ⟨B.cb, 0, none⟩), .int .u64 1] W fun e w' => e = .returned (.int .u64 (s.val 1)) ∧ WS w0 w' B V (s.acc 1 1 (s.val 1)) ∧ Fr wTy true W w' := fun W hW => (h.keep hW).load hr 1 (by decide)
  have H := Lib.hid h; have HT := Lib.hid hT; have HL := Lib.hid hld
  clear h hr hT hld hk
  have hd0 := H.out.keep (Below.refl w.heap.size w).drew
  have y0 : w.drew.cell? ⟨B.wb, 0, none⟩ = some (.pointer (some ⟨B.cb, 0, none⟩)) := hd0.c0
  have y1 : w.drew.cell? ⟨b, 1, none⟩ = some (.int .u64 k) := hcell (w := w.drew) (HT.out) 1
  have hlw := HL.out w.drew (Below.refl w.heap.size w).drew
  clear hd0
  go_enter Tryz.func145, Tryz.ntmps145
  go_wp2_with fail
  go_region_with (go_at_call 74; refine hlw.mono ?_; rintro e w2 ⟨rfl, h2, f2⟩; have HT2 : Hid (TakeAt w2 b t k d 2) := f2.cells _ _ _ _ HT.out rfl; have z1 := hcell HT2.out 1; have H2 := Lib.hid h2; have F2 := Lib.hid f2; clear h2 f2 y0 y1 hlw)
  all_goals (clear z1)
  all_goals go_wp2
  all_goals go_end0
  all_goals exact ⟨rfl, H2.out, HT2.out, ⟨F2.out.size, fun k cs T fr h1 h2 _ => F2.out.cells k cs T fr h1 h2, fun h => by cases h⟩⟩

/-- A step of a Take. -/
theorem tstep0 {w : World} {b : Nat} {t k : Int} {d : Bool} (h : TakeAt w b t k d 0) (v : Value) (hv : v = .pointer none ∨ ∃ a, v = .pointer (some a)) : Calls Tryz.prog 84 #[.pointer (some ⟨b, 0, none⟩), v] w fun e w' => e = .returned (.bool true) ∧ w' = w := by
  have ho := tover h true rfl
  clear h
  rcases hv with rfl | ⟨a, rfl⟩
  all_goals
    go_enter Tryz.func84, Tryz.ntmps84
    go_wp2_with (go_at_call 94; refine ho.mono ?_; rintro e w1 ⟨rfl, hw⟩; obtain rfl := hw.symm)
    go_ret
    exact ⟨rfl, rfl⟩
theorem tstep_nil {w : World} {b : Nat} {t k : Int} {d : Bool} {ln : Nat} (h : TakeAt w b t k d (ln + 1)) : Calls Tryz.prog 84 #[.pointer (some ⟨b, 0, none⟩), .pointer none] w fun e w' => e = .returned (.bool false) ∧ w' = w := by
  have ho := tover h false (by simp)
  clear h
  go_enter Tryz.func84, Tryz.ntmps84
  go_wp2_with (go_at_call 94; refine ho.mono ?_; rintro e w1 ⟨rfl, hw⟩; obtain rfl := hw.symm)
  go_ret
  exact ⟨rfl, rfl⟩
section
variable {w0 w : World} {B : WB} {V : WV} {s : CS} {b t : Nat} {d : Bool} {k : Int} (h : WS w0 w B V s) (hr : s.room) (hlo : w0.heap.size ≤ b) (ht : t < 64)
include h hr hlo ht
theorem tstep1 (hT : TakeAt w b t k d 1) : Calls Tryz.prog 84 #[.pointer (some ⟨b, 0, none⟩), .pointer (some ⟨B.wb, 0, none⟩)] w fun e w' => e = .returned (.bool false) ∧ WS w0 w' B { V with tk := V.tk.set t (wu (s.val 0 + 1)) } (s.acc 4 0 (wu (s.val 0 + 1))) ∧ TakeAt w' b t (s.val 0) true 2 ∧ Fx wTy true b w w' := by
  have ho := tover hT false rfl
  have hd := draw_any h hr hT hlo ht
  have c3 : w.cell? ⟨b, 3, none⟩ = some (.func (.func 87) #[.pointer (some ⟨b, 0, none⟩)] #[]) := hcell hT 3
  clear h hr hT
  go_enter Tryz.func84, Tryz.ntmps84
  go_wp2_with (first
    | (go_at_call 94; refine ho.mono ?_; rintro e w1 ⟨rfl, hw⟩; obtain rfl := hw.symm; clear ho)
    | (go_at_call 87; refine hd.mono ?_; rintro e w2 ⟨rfl, h2, t2, f2⟩; have ho2 := tover t2 false rfl; have H2 := Lib.hid h2; have T2 := Lib.hid t2; have F2 := Lib.hid f2; clear h2 t2 f2 hd c3)
    | (go_at_call 94; refine ho2.mono ?_; rintro e w1 ⟨rfl, hw⟩; obtain rfl := hw.symm; clear ho2))
  go_ret
  exact ⟨rfl, H2.out, T2.out, F2.out⟩
theorem tstep2y (hT : TakeAt w b t (s.val 1) d 2) : Calls Tryz.prog 84 #[.pointer (some ⟨b, 0, none⟩), .pointer (some ⟨B.wb, 0, none⟩)] w fun e w' => e = .returned (.bool true) ∧ WS w0 w' B { V with tk := V.tk.set t 0, hd := t } (s.acc 1 1 (s.val 1)) ∧ TakeAt w' b t (s.val 1) d 0 ∧ Fx wTy true b w w' := by
  have ho := tover hT false rfl
  have hd := look_yes h hr hT hlo ht
  have c3 : w.cell? ⟨b, 3, none⟩ = some (.func (.func 145) #[.pointer (some ⟨b, 0, none⟩)] #[]) := hcell hT 3
  clear h hr hT
  go_enter Tryz.func84, Tryz.ntmps84
  go_wp2_with (first
    | (go_at_call 94; refine ho.mono ?_; rintro e w1 ⟨rfl, hw⟩; obtain rfl := hw.symm; clear ho)
    | (go_at_call 145; refine hd.mono ?_; rintro e w2 ⟨rfl, h2, t2, f2⟩; have ho2 := tover t2 true rfl; have H2 := Lib.hid h2; have T2 := Lib.hid t2; have F2 := Lib.hid f2; clear h2 t2 f2 hd c3)
    | (go_at_call 94; refine ho2.mono ?_; rintro e w1 ⟨rfl, hw⟩; obtain rfl := hw.symm; clear ho2))
  go_ret
  exact ⟨rfl, H2.out, T2.out, F2.out⟩
omit hlo ht in
theorem tstep2n (hT : TakeAt w b t k d 2) (hk : s.val 1 ≠ k) : Calls Tryz.prog 84 #[.pointer (some ⟨b, 0, none⟩), .pointer (some ⟨B.wb, 0, none⟩)] w fun e w' => e = .returned (.bool false) ∧ WS w0 w' B V (s.acc 1 1 (s.val 1)) ∧ TakeAt w' b t k d 2 ∧ Fx wTy true b w w' := by
  have ho := tover hT false rfl
  have hd := look_no h hr hT hk
  have c3 : w.cell? ⟨b, 3, none⟩ = some (.func (.func 145) #[.pointer (some ⟨b, 0, none⟩)] #[]) := hcell hT 3
  clear h hr hT hk
  go_enter Tryz.func84, Tryz.ntmps84
  go_wp2_with (first
    | (go_at_call 94; refine ho.mono ?_; rintro e w1 ⟨rfl, hw⟩; obtain rfl := hw.symm; clear ho)
    | (go_at_call 145; refine hd.mono ?_; rintro e w2 ⟨rfl, h2, t2, f2⟩; have ho2 := tover t2 false rfl; have H2 := Lib.hid h2; have T2 := Lib.hid t2; have F2 := Lib.hid f2; clear h2 t2 f2 hd c3)
    | (go_at_call 94; refine ho2.mono ?_; rintro e w1 ⟨rfl, hw⟩; obtain rfl := hw.symm; clear ho2))
  go_ret
  exact ⟨rfl, H2.out, T2.out, F2.out⟩
omit ht in
/-- A Give's only step. -/
theorem gstep (hG : GiveAt w b 1) : Calls Tryz.prog 85 #[.pointer (some ⟨b, 0, none⟩), .pointer (some ⟨B.wb, 0, none⟩)] w fun e w' => e = .returned (.bool true) ∧ WS w0 w' B { V with hd := -1 } (s.acc 4 1 (wu (s.val 1 + 1))) ∧ GiveAt w' b 0 ∧ Fx wTy true b w w' := by
  have ho := gover hG false rfl
  have c0 := hcell hG 0
  have cf := hfrz hG
  have hset := set_take (o := 0) h hG rfl hlo (.int .i64 0)
  have hq := setCell_same hG 0 (.int .i64 0)
  have hq : GiveAt (w.setCell ⟨b, 0, none⟩ (.int .i64 0)) b 0 := hq
  have H := Lib.hid hset; have HQ := Lib.hid hq
  have hadd := hset.add hr 1 (by decide) 1
  have g0 := hset.c0
  clear h hr hG hset hq
  go_enter Tryz.func85, Tryz.ntmps85
  go_upto_region 3 with (go_at_call 92; refine ho.mono ?_; rintro e w1 ⟨rfl, hw⟩; obtain rfl := hw.symm; clear ho)
  have F1 : Hid (Fx wTy true b w (w.setCell ⟨b, 0, none⟩ (.int .i64 0))) := set_fx _ _ _ _ _ _
  clear c0 cf
  generalize w.setCell ⟨b, 0, none⟩ (.int .i64 0) = W1 at *
  go_upto_region 4 with (go_at_call 108; refine hadd.mono ?_; rintro e w2 ⟨rfl, h2, f2⟩; have g72 := h2.hcell'; have gf := h2.frz 72; have H2 := Lib.hid h2; have F2 := Lib.hid f2; clear h2 f2 hadd g0)
  obtain ⟨h3, f3⟩ := H2.out.set 72 (.int .i64 (-1)) { V with hd := -1 } (val_hd B _ H2.out.tkl (-1)) rfl rfl H2.out.tkl
  have hq3 : GiveAt (w2.setCell ⟨B.wb, 72, none⟩ (.int .i64 (-1))) b 0 := (F2.out.trans f3).cells _ _ _ _ HQ.out rfl
  have ho2 := gover hq3 true rfl
  have H3 := Lib.hid h3; have HQ3 := Lib.hid hq3; have F3 := Lib.hid (F1.out.trans ((F2.out.trans f3).fx b))
  clear h3 f3 hq3 F1 F2 H2 HQ H
  go_upto_region 5 with (fail)
  generalize w2.setCell ⟨B.wb, 72, none⟩ (.int .i64 (-1)) = W3 at *
  go_wp2_with (go_at_call 92; refine ho2.mono ?_; rintro e w1 ⟨rfl, hw⟩; obtain rfl := hw.symm; clear ho2)
  go_ret
  exact ⟨rfl, H3.out, HQ3.out, F3.out⟩
end
/-- Who waits. -/
theorem waits_any {w0 w : World} {B : WB} {V : WV} {s : CS} (h : WS w0 w B V s) (t : Nat) (ht : t < 64) : Calls Tryz.prog 25 #[.pointer (some ⟨B.wb, 0, none⟩), .int .i64 t] w fun e w' =>
    e = .returned (.bool (V.tk.getD t 0 != 0 && s.val 1 != IntKind.u64.wrap (V.tk.getD t 0 - 1))) ∧ w' = w := by
  have hp := h.peek 1 (by decide)
  have c0 := h.c0
  have c8 := h.cellb t ht
  have hth := thread_in t ht
  have ht' : (t : Int) < 64 := by omega
  generalize V.tk.getD t 0 = v at *
  clear h
  cases hv : (v != 0)
  · go_enter Tryz.func25, Tryz.ntmps25
    go_wp2_with (first
      | (go_at_call 86; refine (hth _).mono ?_; rintro e w1 ⟨rfl, hw⟩; obtain rfl := hw.symm)
      | (go_at_call 49; refine hp.mono ?_; rintro e w1 ⟨rfl, hw⟩; obtain rfl := hw.symm))
    go_ret
    exact ⟨rfl, rfl⟩
  · go_enter Tryz.func25, Tryz.ntmps25
    go_wp2_with (first
      | (go_at_call 86; refine (hth _).mono ?_; rintro e w1 ⟨rfl, hw⟩; obtain rfl := hw.symm)
      | (go_at_call 49; refine hp.mono ?_; rintro e w1 ⟨rfl, hw⟩; obtain rfl := hw.symm))
    go_ret
    exact ⟨by simp, rfl⟩
end Go.Proofs.YtddflihgadlafaaGreat

/-
  A world with nothing ahead; the lock's words, and one thread's; layer 11's examples.
-/
namespace Go.Proofs.YtddflihgadlafaaGreat
open Go.RowKit
set_option linter.unusedVariables false

theorem field_pair (x y : Option Addr) (W : World) : (Instr.field 34 (.agg #[.pointer x, .pointer y]) 0).run Tryz.prog W = .ok (.pointer x) W := by kernel_rfl
theorem begin11 (w : World) : Calls Tryz.prog 83 #[] w fun e w' => ∃ B, e = .returned (.pointer (some ⟨B.wb, 0, none⟩)) ∧ WS w w' B (v0 conf10) (CS.init [(2, 2)]) := by
  have hz := begin_zero w
  have hf := field_pair
  go_enter Tryz.func83, Tryz.ntmps83
  go_wp2_with (go_at_call 13; refine hz.mono ?_; rintro e w1 ⟨B, R, V, s, x, rfl, hp, hv, hfar, hok, hs⟩)
  go_ret
  have hs2 : s = CS.init [(2, 2)] := hs rfl rfl rfl (Int.le_refl _)
  have hws := hp.ws
  rw [hv, hs2] at hws
  exact ⟨B, rfl, hws⟩

/-- Made since w0; the lock's words a, b; thread q's cell v; the Holder; how many accesses; the last one's kind. -/
def TW (w0 w : World) (B : WB) (q : Nat) (a b v hd : Int) (c : Nat) (kd : Int) : Prop := ∃ V s, WS w0 w B V s ∧ s.val 0 = a ∧ s.val 1 = b ∧ V.tk.getD q 0 = v ∧ V.hd = hd ∧ s.cnt = c ∧ s.n = c + 1 ∧ s.kind = kd
theorem TW.keep {w0 w w' : World} {B : WB} {q : Nat} {a b v hd kd : Int} {c : Nat} (h : TW w0 w B q a b v hd c kd) (hb : Below w.heap.size w w') : TW w0 w' B q a b v hd c kd := by
  obtain ⟨V, s, h1, h2⟩ := h
  exact ⟨V, s, h1.keep hb, h2⟩
theorem TW.new {w0 w : World} {B : WB} (q : Nat) (hq : q < 64) (h : WS w0 w B (v0 conf10) (CS.init [(2, 2)])) : TW w0 w B q 0 0 0 (-1) 0 0 :=
  ⟨_, _, h, rfl, rfl, by show (List.replicate 64 (0 : Int)).getD q 0 = 0; rw [List.getD_eq_getElem?_getD, List.getElem?_replicate]; simp [hq], rfl, rfl, rfl, rfl⟩
theorem TW.below {w0 w : World} {B : WB} {q : Nat} {a b v hd kd : Int} {c : Nat} (h : TW w0 w B q a b v hd c kd) : Below w0.heap.size w0 w := by obtain ⟨V, s, h1, _⟩ := h; exact h1.below
section
variable {w0 w : World} {B : WB} {q : Nat} {a b v hd kd : Int} {c : Nat} (h : TW w0 w B q a b v hd c kd)
include h
theorem TW.c0 : w.cell? ⟨B.wb, 0, none⟩ = some (.pointer (some ⟨B.cb, 0, none⟩)) := by obtain ⟨V, s, h1, _⟩ := h; exact h1.c0
theorem TW.c72 : w.cell? ⟨B.wb, 72, none⟩ = some (.int .i64 hd) := by obtain ⟨V, s, h1, _, _, _, h2, _⟩ := h; rw [← h2]; exact h1.hcell'
theorem TW.cq (hq : q < 64) : w.cell? ⟨B.wb, 8 + q, none⟩ = some (.int .u64 v) := by obtain ⟨V, s, h1, _, _, h2, _⟩ := h; rw [← h2]; exact h1.cellb q hq
theorem TW.wfs : (0 ≤ a ∧ a < 18446744073709551616) ∧ (0 ≤ b ∧ b < 18446744073709551616) := by
  obtain ⟨V, s, h1, rfl, rfl, _⟩ := h
  exact ⟨wf_bd (h1.own.wf 0), wf_bd (h1.own.wf 1)⟩
theorem TW.peek0 : Calls Tryz.prog 49 #[.pointer (some ⟨B.cb, 0, none⟩), .int .u64 0] w fun e w' => e = .returned (.int .u64 a) ∧ w' = w := by
  obtain ⟨V, s, h1, rfl, _⟩ := h; exact h1.peek 0 (by decide)
theorem TW.peek1 : Calls Tryz.prog 49 #[.pointer (some ⟨B.cb, 0, none⟩), .int .u64 1] w fun e w' => e = .returned (.int .u64 b) ∧ w' = w := by
  obtain ⟨V, s, h1, _, rfl, _⟩ := h; exact h1.peek 1 (by decide)
theorem TW.steps : Calls Tryz.prog 58 #[.pointer (some ⟨B.wb, 0, none⟩)] w fun e w' => e = .returned (.int .i64 c) ∧ w' = w := by
  obtain ⟨V, s, h1, _, _, _, _, rfl, _⟩ := h; exact steps_any h1.wld
theorem TW.last : Calls Tryz.prog 80 #[.pointer (some ⟨B.cb, 0, none⟩)] w fun e w' => (∃ x y z, e = .returned (.agg #[.int .u8 kd, .int .u64 x, .int .u64 y, .int .u64 z])) ∧ TW w0 w' B q a b v hd c kd ∧ Below w.heap.size w w' := by
  have h0 := h
  obtain ⟨V, s, h1, _, _, _, _, _, _, rfl⟩ := h
  obtain ⟨⟨S, hS⟩, hB⟩ := h1.own
  exact (last_any w _ B.cb s S hS).mono fun e w' ⟨he, hb⟩ => ⟨⟨_, _, _, he⟩, h0.keep hb, hb⟩
theorem TW.waits (hq : q < 64) : Calls Tryz.prog 25 #[.pointer (some ⟨B.wb, 0, none⟩), .int .i64 q] w fun e w' => e = .returned (.bool (v != 0 && b != IntKind.u64.wrap (v - 1))) ∧ w' = w := by
  obtain ⟨V, s, h1, _, rfl, rfl, _⟩ := h; exact waits_any h1 q hq
theorem TW.room (hc : c < 10000) : ∃ V s, WS w0 w B V s ∧ s.room ∧ s.val 0 = a ∧ s.val 1 = b ∧ V.tk.getD q 0 = v ∧ V.hd = hd ∧ s.cnt = c ∧ s.n = c + 1 ∧ s.kind = kd := by
  obtain ⟨V, s, h1, h2, h3, h4, h5, h6, h7, h8⟩ := h
  exact ⟨V, s, h1, by unfold CS.room lim; omega, h2, h3, h4, h5, h6, h7, h8⟩
theorem TW.store (hc : c < 10000) (i y : Int) (hi : i = 0 ∨ i = 1) (hy : (Lit.int .u64 y).wf = true) : Calls Tryz.prog 88 #[.pointer (some ⟨B.cb, 0, none⟩), .int .u64 i, .int .u64 y] w fun e w' => (∃ o, e = .returned (.int .u64 o)) ∧ TW w0 w' B q (if i = 0 then y else a) (if i = 1 then y else b) v hd (c + 1) 2 := by
  obtain ⟨V, s, h1, hr, h2, h3, h4, h5, h6, h7, h8⟩ := h.room hc
  refine (h1.store hr i (by rcases hi with rfl | rfl <;> decide) y hy).mono fun e w' ⟨he, hw, hf⟩ => ⟨⟨_, he⟩, V, _, hw, ?_, ?_, h4, h5, by simp [CS.acc, h6], by simp [CS.acc, h7], rfl⟩
  · rcases hi with rfl | rfl
    · rw [if_pos rfl]; exact CS.acc_self _ _ _
    · rw [if_neg (by decide), CS.acc_val _ _ _ _ (by decide)]; exact h2
  · rcases hi with rfl | rfl
    · rw [if_neg (by decide), CS.acc_val _ _ _ _ (by decide)]; exact h3
    · rw [if_pos rfl]; exact CS.acc_self _ _ _
variable {p t : Nat} {k : Int} {d : Bool} (hlo : w0.heap.size ≤ p) (ht : t < 64) (hc : c < 10000)
include hlo ht hc
theorem TW.draw (hT : TakeAt w p t k d 1) (hne : t ≠ q) : Calls Tryz.prog 84 #[.pointer (some ⟨p, 0, none⟩), .pointer (some ⟨B.wb, 0, none⟩)] w fun e w' => e = .returned (.bool false) ∧ TW w0 w' B q (wu (a + 1)) b v hd (c + 1) 4 ∧ TakeAt w' p t a true 2 ∧ Fx wTy true p w w' := by
  obtain ⟨V, s, h1, hr, rfl, rfl, rfl, rfl, h6, h7, h8⟩ := h.room hc
  refine (tstep1 h1 hr hlo ht hT).mono fun e w' ⟨he, hw, hT', hf⟩ => ⟨he, ⟨_, _, hw, CS.acc_self _ _ _, CS.acc_val _ _ _ _ (by decide), ?_, rfl, by simp [CS.acc, h6], by simp [CS.acc, h7], rfl⟩, hT', hf⟩
  simp [hne]
theorem TW.drawq (hT : TakeAt w p t k d 1) (hq : t = q) : Calls Tryz.prog 84 #[.pointer (some ⟨p, 0, none⟩), .pointer (some ⟨B.wb, 0, none⟩)] w fun e w' => e = .returned (.bool false) ∧ TW w0 w' B q (wu (a + 1)) b (wu (a + 1)) hd (c + 1) 4 ∧ TakeAt w' p t a true 2 ∧ Fx wTy true p w w' := by
  obtain ⟨V, s, h1, hr, rfl, rfl, rfl, rfl, h6, h7, h8⟩ := h.room hc
  subst hq
  refine (tstep1 h1 hr hlo ht hT).mono fun e w' ⟨he, hw, hT', hf⟩ => ⟨he, ⟨_, _, hw, CS.acc_self _ _ _, CS.acc_val _ _ _ _ (by decide), ?_, rfl, by simp [CS.acc, h6], by simp [CS.acc, h7], rfl⟩, hT', hf⟩
  have := h1.tkl
  simp [this, ht]
omit hlo ht in
theorem TW.wait (hT : TakeAt w p t k d 2) (hk : b ≠ k) : Calls Tryz.prog 84 #[.pointer (some ⟨p, 0, none⟩), .pointer (some ⟨B.wb, 0, none⟩)] w fun e w' => e = .returned (.bool false) ∧ TW w0 w' B q a b v hd (c + 1) 1 ∧ TakeAt w' p t k d 2 ∧ Fx wTy true p w w' := by
  obtain ⟨V, s, h1, hr, rfl, rfl, rfl, rfl, h6, h7, h8⟩ := h.room hc
  exact (tstep2n h1 hr hT hk).mono fun e w' ⟨he, hw, hT', hf⟩ => ⟨he, ⟨_, _, hw, CS.acc_val _ _ _ _ (by decide), CS.acc_self _ _ _, rfl, rfl, by simp [CS.acc, h6], by simp [CS.acc, h7], rfl⟩, hT', hf⟩
theorem TW.servedq (hT : TakeAt w p t b d 2) (hq : t = q) : Calls Tryz.prog 84 #[.pointer (some ⟨p, 0, none⟩), .pointer (some ⟨B.wb, 0, none⟩)] w fun e w' => e = .returned (.bool true) ∧ TW w0 w' B q a b 0 q (c + 1) 1 ∧ TakeAt w' p t b d 0 ∧ Fx wTy true p w w' := by
  obtain ⟨V, s, h1, hr, rfl, rfl, rfl, rfl, h6, h7, h8⟩ := h.room hc
  subst hq
  refine (tstep2y h1 hr hlo ht hT).mono fun e w' ⟨he, hw, hT', hf⟩ => ⟨he, ⟨_, _, hw, CS.acc_val _ _ _ _ (by decide), CS.acc_self _ _ _, ?_, rfl, by simp [CS.acc, h6], by simp [CS.acc, h7], rfl⟩, hT', hf⟩
  have := h1.tkl
  simp [this, ht]
theorem TW.served (hT : TakeAt w p t b d 2) (hne : t ≠ q) : Calls Tryz.prog 84 #[.pointer (some ⟨p, 0, none⟩), .pointer (some ⟨B.wb, 0, none⟩)] w fun e w' => e = .returned (.bool true) ∧ TW w0 w' B q a b v t (c + 1) 1 ∧ TakeAt w' p t b d 0 ∧ Fx wTy true p w w' := by
  obtain ⟨V, s, h1, hr, rfl, rfl, rfl, rfl, h6, h7, h8⟩ := h.room hc
  refine (tstep2y h1 hr hlo ht hT).mono fun e w' ⟨he, hw, hT', hf⟩ => ⟨he, ⟨_, _, hw, CS.acc_val _ _ _ _ (by decide), CS.acc_self _ _ _, ?_, rfl, by simp [CS.acc, h6], by simp [CS.acc, h7], rfl⟩, hT', hf⟩
  simp [hne]
omit ht in
theorem TW.give (hG : GiveAt w p 1) : Calls Tryz.prog 85 #[.pointer (some ⟨p, 0, none⟩), .pointer (some ⟨B.wb, 0, none⟩)] w fun e w' => e = .returned (.bool true) ∧ TW w0 w' B q a (wu (b + 1)) v (-1) (c + 1) 4 ∧ Fx wTy true p w w' := by
  obtain ⟨V, s, h1, hr, rfl, rfl, rfl, rfl, h6, h7, h8⟩ := h.room hc
  exact (gstep h1 hr hlo hG).mono fun e w' ⟨he, hw, hT', hf⟩ => ⟨he, ⟨_, _, hw, CS.acc_val _ _ _ _ (by decide), CS.acc_self _ _ _, rfl, rfl, by simp [CS.acc, h6], by simp [CS.acc, h7], rfl⟩, hf⟩
end

set_option maxRecDepth 10000 in
set_option maxHeartbeats 2000000 in
theorem lives11 (w : World) : Calls Tryz.prog 17 #[] w fun e w' => e = .returned (.bool true) ∧ Below w.heap.size w w' := by
  have e1 : wu (0 + 1) = 1 := by decide
  have e2 : wu (1 + 1) = 2 := by decide
  go_enter Tryz.func17, Tryz.ntmps17
  go_upto_region 3 with (first
    | (go_at_call 83; refine (begin11 w).mono ?_; rintro e w1 ⟨B, rfl, h1⟩; have H1 := Lib.hid (TW.new 5 (by decide) h1); clear h1)
    | (go_at_call 18; refine (newtake_in 3 (by decide) _).mono ?_; rintro e w2 ⟨rfl, t2, b2⟩; have H2 := Lib.hid (H1.out.keep b2); have T2 := Lib.hid t2; clear t2 b2))
  have hl2 : w.heap.size ≤ w1.heap.size := H1.out.below.size
  have hw1 : ((2 : Int) != 0 && (0 : Int) != IntKind.u64.wrap (2 - 1)) = true := by decide
  have hw2 : ((2 : Int) != 0 && (1 : Int) != IntKind.u64.wrap (2 - 1)) = false := by decide
  go_upto_region 5 with (first
    | (go_at_call 84; ((with_reducible refine (H2.out.draw hl2 (by decide) (by decide) T2.out (by decide)).mono ?_); rw [e1]; rintro e w3 ⟨rfl, h3, t3, f3⟩; have H3 := Lib.hid h3; have T3 := Lib.hid t3; clear h3 t3 f3))
    | (go_at_call 84; ((with_reducible refine (H3.out.served hl2 (by decide) (by decide) T3.out (by decide)).mono ?_); rintro e w4 ⟨rfl, h4, t4, f4⟩; have c72 := h4.c72; have H4 := Lib.hid h4; clear h4 t4 f4 T3 T2))
    | (go_at_call 18; refine (newtake_in 5 (by decide) _).mono ?_; rintro e w5 ⟨rfl, t5, b5⟩; have H5 := Lib.hid (H4.out.keep b5); have T5 := Lib.hid t5; clear t5 b5 c72))
  have hl5 : w.heap.size ≤ w4.heap.size := H4.out.below.size
  clear H1 H2 H3 H4
  go_upto_region 6 with (first
    | (go_at_call 84; ((with_reducible refine (H5.out.drawq hl5 (by decide) (by decide) T5.out rfl).mono ?_); rw [e2]; rintro e w6 ⟨rfl, h6, t6, f6⟩; have hwt := h6.waits (by decide); rw [hw1] at hwt; have H6 := Lib.hid h6; have T6 := Lib.hid t6; clear h6 t6 f6 T5))
    | (go_at_call 25; refine hwt.mono ?_; rintro e w' ⟨rfl, hw⟩; obtain rfl := hw.symm; clear hwt)
    | (go_at_call 84; ((with_reducible refine (H6.out.wait (by decide) T6.out (by decide)).mono ?_); rintro e w7 ⟨rfl, h7, t7, f7⟩; have hwt := h7.waits (by decide); rw [hw1] at hwt; have H7 := Lib.hid h7; have T7 := Lib.hid t7; clear h7 t7 f7 T6)))
  clear H5 H6
  go_upto_region 7 with (first
    | (go_at_call 20; refine (newgive _).mono ?_; rintro e w8 ⟨rfl, g8, b8⟩; have H8 := Lib.hid (H7.out.keep b8); have T8 := Lib.hid (T7.out.below b8); have G8 := Lib.hid g8; have hl8 : w.heap.size ≤ w7.heap.size := H7.out.below.size; have hne8 : w4.heap.size ≠ w7.heap.size := (by have := T7.out.lt; omega); clear g8 b8)
    | (go_at_call 85; refine (H8.out.give hl8 (by decide) G8.out).mono ?_; rw [e1]; rintro e w9 ⟨rfl, h9, f9⟩; have c72 := h9.c72; have hwt := h9.waits (by decide); rw [hw2] at hwt; have H9 := Lib.hid h9; have T9 : Hid (TakeAt w9 w4.heap.size 5 1 true 2) := f9.cells _ _ _ _ T8.out rfl hne8; clear h9 f9)
    | (go_at_call 25; refine hwt.mono ?_; rintro e w' ⟨rfl, hw⟩; obtain rfl := hw.symm; clear hwt))
  clear c72 H7 T7 H8 T8 G8
  go_wp2_with (go_at_call 84; ((refine (H9.out.servedq hl5 (by decide) (by decide) T9.out rfl).mono ?_); rintro e w10 ⟨rfl, h10, t10, f10⟩; have c72 := h10.c72; have H10 := Lib.hid h10; clear h10 t10 f10))
  go_ret
  exact ⟨rfl, H10.out.below⟩
end Go.Proofs.YtddflihgadlafaaGreat

/-
  Tickets: what is not there; rows of pointers.
-/
namespace Go.Proofs.YtddflihgadlafaaGreat
open Go.RowKit Go.Maps
set_option linter.unusedVariables false

theorem over_nil (w : World) : Calls Tryz.prog 94 #[.pointer none] w fun e w' => e = .returned (.bool true) ∧ w' = w := by
  go_enter Tryz.func94, Tryz.ntmps94
  go_wp2
  go_ret
  exact ⟨rfl, rfl⟩
theorem got_nil (w : World) : Calls Tryz.prog 93 #[.pointer none] w fun e w' => e = .returned (.tuple #[.int .u64 0, .bool false]) ∧ w' = w := by
  go_enter Tryz.func93, Tryz.ntmps93
  go_wp2
  go_ret2
  exact ⟨rfl, rfl⟩
theorem step_nil (v : Value) (w : World) : Calls Tryz.prog 84 #[.pointer none, v] w fun e w' => e = .returned (.bool true) ∧ w' = w := by
  go_enter Tryz.func84, Tryz.ntmps84
  go_wp2_with (go_at_call 94; refine (over_nil _).mono ?_; rintro e w1 ⟨rfl, hw⟩; obtain rfl := hw.symm)
  go_ret
  exact ⟨rfl, rfl⟩
theorem gover_nil (w : World) : Calls Tryz.prog 92 #[.pointer none] w fun e w' => e = .returned (.bool true) ∧ w' = w := by
  go_enter Tryz.func92, Tryz.ntmps92
  go_wp2
  go_ret
  exact ⟨rfl, rfl⟩
theorem gstep_nil (v : Value) (w : World) : Calls Tryz.prog 85 #[.pointer none, v] w fun e w' => e = .returned (.bool true) ∧ w' = w := by
  go_enter Tryz.func85, Tryz.ntmps85
  go_wp2_with (go_at_call 92; refine (gover_nil _).mono ?_; rintro e w1 ⟨rfl, hw⟩; obtain rfl := hw.symm)
  go_ret
  exact ⟨rfl, rfl⟩
theorem gstep_void {w : World} {b : Nat} (h : GiveAt w b 0) (v : Value) : Calls Tryz.prog 85 #[.pointer (some ⟨b, 0, none⟩), v] w fun e w' => e = .returned (.bool true) ∧ w' = w := by
  have ho := gover h true rfl
  clear h
  go_enter Tryz.func85, Tryz.ntmps85
  go_wp2_with (go_at_call 92; refine ho.mono ?_; rintro e w1 ⟨rfl, hw⟩; obtain rfl := hw.symm)
  go_ret
  exact ⟨rfl, rfl⟩
theorem gstep_no {w : World} {b : Nat} (h : GiveAt w b 1) : Calls Tryz.prog 85 #[.pointer (some ⟨b, 0, none⟩), .pointer none] w fun e w' => e = .returned (.bool false) ∧ w' = w := by
  have ho := gover h false rfl
  clear h
  go_enter Tryz.func85, Tryz.ntmps85
  go_wp2_with (go_at_call 92; refine ho.mono ?_; rintro e w1 ⟨rfl, hw⟩; obtain rfl := hw.symm)
  go_ret
  exact ⟨rfl, rfl⟩
theorem waits_none (t : Int) (w : World) : Calls Tryz.prog 25 #[.pointer none, .int .i64 t] w fun e w' => e = .returned (.bool false) ∧ w' = w := by
  go_enter Tryz.func25, Tryz.ntmps25
  go_wp2
  go_ret
  exact ⟨rfl, rfl⟩
theorem waits_out (b : Nat) (t : Int) (h : t < 0 ∨ 63 < t) (w : World) : Calls Tryz.prog 25 #[.pointer (some ⟨b, 0, none⟩), .int .i64 t] w fun e w' => e = .returned (.bool false) ∧ w' = w := by
  have ht := thread_out t h w
  clear h
  go_enter Tryz.func25, Tryz.ntmps25
  go_wp2_with (go_at_call 86; refine ht.mono ?_; rintro e w1 ⟨rfl, hw⟩; obtain rfl := hw.symm)
  go_ret
  exact ⟨rfl, rfl⟩
/-- A Take that is over, or none. -/
def VTake (w : World) (v : Value) : Prop := v = .pointer none ∨ ∃ b t, v = .pointer (some ⟨b, 0, none⟩) ∧ TakeAt w b t 0 false 0
theorem VTake.keep {w w' : World} {v : Value} (h : VTake w v) (hk : ∀ b t, v = .pointer (some ⟨b, 0, none⟩) → TakeAt w b t 0 false 0 → w'.heap[b]? = w.heap[b]?) : VTake w' v := by
  rcases h with rfl | ⟨b, t, rfl, h⟩
  · exact .inl rfl
  · exact .inr ⟨b, t, rfl, (hk b t rfl h).trans h⟩
theorem VTake.below {w w' : World} {v : Value} (h : VTake w v) (hb : Below w.heap.size w w') : VTake w' v := h.keep fun b t _ h => hb.block _ h.lt
theorem VTake.over {w : World} {v : Value} (h : VTake w v) : Calls Tryz.prog 94 #[v] w fun e w' => e = .returned (.bool true) ∧ w' = w := by
  rcases h with rfl | ⟨b, t, rfl, h⟩
  · exact over_nil w
  · exact tover h true rfl
theorem VTake.got {w : World} {v : Value} (h : VTake w v) : Calls Tryz.prog 93 #[v] w fun e w' => e = .returned (.tuple #[.int .u64 0, .bool false]) ∧ Below w.heap.size w w' := by
  rcases h with rfl | ⟨b, t, rfl, h⟩
  · exact (got_nil w).mono fun e w' ⟨h1, h2⟩ => ⟨h1, h2 ▸ Below.refl _ _⟩
  · exact got_any h
theorem VTake.step {w : World} {v u : Value} (h : VTake w v) (hu : u = .pointer none ∨ ∃ a, u = .pointer (some a)) : Calls Tryz.prog 84 #[v, u] w fun e w' => e = .returned (.bool true) ∧ w' = w := by
  rcases h with rfl | ⟨b, t, rfl, h⟩
  · exact step_nil u w
  · exact tstep0 h u hu
end Go.Proofs.YtddflihgadlafaaGreat

/-
  The document's tickets: a Take, a Give, who waits.
-/
namespace Go.Proofs.YtddflihgadlafaaGreat
open Go.RowKit
set_option linter.unusedVariables false

theorem RD.cellb {w0 w : World} {B : WB} {V : WV} {x : RS} (h : RD w0 w B V x) (t : Nat) (ht : t < 64) : w.cell? ⟨B.wb, 8 + t, none⟩ = some (.int .u64 (V.tk.getD t 0)) := (h.cell (8 + t)).trans (val_tkat B V h.tkl t ht)
theorem RD.hcell' {w0 w : World} {B : WB} {V : WV} {x : RS} (h : RD w0 w B V x) : w.cell? ⟨B.wb, 72, none⟩ = some (.int .i64 V.hd) := (h.cell 72).trans (val_at B V h.tkl).2.2.2.2.2
theorem RD.frz {w0 w : World} {B : WB} {V : WV} {x : RS} (h : RD w0 w B V x) (o : Nat) : w.frozen? ⟨B.wb, o, none⟩ = false := hfrz h.blk o
theorem rset_take {w0 w : World} {B : WB} {V : WV} {x : RS} {b o : Nat} {cs : Array Value} {T : TypeId} (h : RD w0 w B V x) (hb : w.heap[b]? = some (.cells cs T (0, 0))) (hT : rTy T = false) (hlo : w0.heap.size ≤ b) (v : Value) : RD w0 (w.setCell ⟨b, o, none⟩ v) B V x :=
  h.fr (set_ty hb o v) (fun X hX => by cases hXT : (X == T); rfl; rw [beq_iff_eq] at hXT; subst hXT; rw [hX] at hT; cases hT) (set_below h.below h.below.size hlo o v)
/-- The document's Take, at its line. -/
def RTakeAt (w : World) (b : Nat) (t k : Int) (d : Bool) (ln : Int) : Prop := w.heap[b]? = some (.cells #[.int .i64 ln, .int .u64 k, .bool d, .int .i64 t] 193 (0, 0))
def RGiveAt (w : World) (b : Nat) (l : Int) : Prop := w.heap[b]? = some (.cells #[.int .i64 l] 197 (0, 0))
theorem rnewtake (t : Nat) (h : t < 64) (w : World) : Calls Tryz.prog 19 #[.int .i64 t] w fun e w' => e = .returned (.pointer (some ⟨w.heap.size, 0, none⟩)) ∧ RTakeAt w' w.heap.size t 0 false 1 ∧ Below w.heap.size w w' := by
  have h0 : decide ((t : Int) < 0) = false := decide_eq_false (by omega)
  have h1 : decide ((63 : Int) < t) = false := decide_eq_false (by omega)
  clear h
  go_enter Tryz.func19, Tryz.ntmps19
  go_wp2
  go_ret
  exact ⟨rfl, heap_alloc_new w _, below_alloc w _⟩
theorem rnewgive (w : World) : Calls Tryz.prog 21 #[] w fun e w' => e = .returned (.pointer (some ⟨w.heap.size, 0, none⟩)) ∧ RGiveAt w' w.heap.size 1 ∧ Below w.heap.size w w' := by
  go_enter Tryz.func21, Tryz.ntmps21
  go_wp2
  go_ret
  exact ⟨rfl, heap_alloc_new w _, below_alloc w _⟩
theorem rtstep0 {w : World} {b : Nat} {t k : Int} {d : Bool} (h : RTakeAt w b t k d 0) (v : Value) : Calls Tryz.prog 91 #[.pointer (some ⟨b, 0, none⟩), v] w fun e w' => e = .returned (.tuple #[]) ∧ w' = w := by
  have c0 := hcell h 0
  clear h
  go_enter Tryz.func91, Tryz.ntmps91
  go_wp2
  go_end0
  exact ⟨rfl, rfl⟩
theorem rgstep0 {w : World} {b : Nat} (h : RGiveAt w b 0) (v : Value) : Calls Tryz.prog 90 #[.pointer (some ⟨b, 0, none⟩), v] w fun e w' => e = .returned (.tuple #[]) ∧ w' = w := by
  have c0 := hcell h 0
  clear h
  go_enter Tryz.func90, Tryz.ntmps90
  go_wp2
  go_end0
  exact ⟨rfl, rfl⟩
section
variable {w0 w : World} {B : WB} {V : WV} {x : RS} {b t : Nat} {k : Int} {d : Bool} (h : RD w0 w B V x) (hr : x.room) (hlo : w0.heap.size ≤ b) (ht : t < 64)
include h hr hlo
set_option maxRecDepth 10000 in
set_option maxHeartbeats 1000000 in
theorem rgstep1 (hG : RGiveAt w b 1) : Calls Tryz.prog 90 #[.pointer (some ⟨b, 0, none⟩), .pointer (some ⟨B.wb, 0, none⟩)] w fun e w' => e = .returned (.tuple #[]) ∧ RD w0 w' B { V with hd := -1 } (x.acc 4 1 (wu (rlook x.l 1 + 1))) ∧ RGiveAt w' b 0 ∧ Fx rTy false b w w' := by
  have hadd := rwadd h hr 1 (by decide) 1
  have c0 := hcell hG 0
  have HG := Lib.hid hG
  clear h hr hG
  go_enter Tryz.func90, Tryz.ntmps90
  go_upto_region 2 with (go_at_call 117; refine hadd.mono ?_; rintro e w2 ⟨rfl, h2, f2⟩; have g72 := h2.hcell'; have gf := h2.frz 72; have H2 := Lib.hid h2; have F2 := Lib.hid f2; clear h2 f2 hadd c0)
  obtain ⟨h3, f3⟩ := H2.out.set 72 (.int .i64 (-1)) { V with hd := -1 } (val_hd B _ H2.out.tkl (-1)) rfl rfl H2.out.tkl
  have hq3 : RGiveAt (w2.setCell ⟨B.wb, 72, none⟩ (.int .i64 (-1))) b 1 := (F2.out.trans f3).cells _ _ _ _ HG.out rfl
  have H3 := Lib.hid h3; have HQ3 := Lib.hid hq3; have F3 := Lib.hid ((F2.out.trans f3).fx b)
  clear h3 f3 hq3 F2 H2
  go_upto_region 3 with (fail)
  generalize w2.setCell ⟨B.wb, 72, none⟩ (.int .i64 (-1)) = W3 at *
  have c0 := hcell HQ3.out 0
  have cf := hfrz HQ3.out 0
  clear g72 gf
  go_wp2
  go_end0
  exact ⟨rfl, rset_take H3.out HQ3.out rfl hlo _, setCell_same HQ3.out 0 _, F3.out.trans (set_fx _ _ _ _ _ _)⟩
include ht
set_option maxRecDepth 10000 in
set_option maxHeartbeats 1000000 in
theorem rtstep1 (hT : RTakeAt w b t k d 1) : Calls Tryz.prog 91 #[.pointer (some ⟨b, 0, none⟩), .pointer (some ⟨B.wb, 0, none⟩)] w fun e w' => e = .returned (.tuple #[]) ∧ RD w0 w' B { V with tk := V.tk.set t (wu (rlook x.l 0 + 1)) } (x.acc 4 0 (wu (rlook x.l 0 + 1))) ∧ RTakeAt w' b t (rlook x.l 0) true 2 ∧ Fx rTy false b w w' := by
  have hadd := rwadd h hr 0 (by decide) 1
  have y0 := hcell hT 0
  have HT := Lib.hid hT
  clear h hr hT
  go_enter Tryz.func91, Tryz.ntmps91
  go_upto_region 3 with (go_at_call 117; refine hadd.mono ?_; rintro e w1 ⟨rfl, h1, f1⟩; have ht1 : RTakeAt w1 b t k d 1 := f1.cells _ _ _ _ HT.out rfl; have y1 := hcell ht1 1; have yf := hfrz ht1 1; have H1 := Lib.hid h1; have F1 := Lib.hid f1; have HT1 := Lib.hid ht1; clear h1 f1 ht1 hadd y0)
  have hq2 : RTakeAt (w1.setCell ⟨b, 1, none⟩ (.int .u64 (rlook x.l 0))) b t (rlook x.l 0) d 1 := setCell_same HT1.out 1 (.int .u64 (rlook x.l 0))
  have h2 := rset_take (o := 1) H1.out HT1.out rfl hlo (.int .u64 (rlook x.l 0))
  have f2 : Fx rTy false b w (w1.setCell ⟨b, 1, none⟩ (.int .u64 (rlook x.l 0))) := (F1.out.fx b).trans (set_fx _ _ _ _ _ _)
  have HQ2 := Lib.hid hq2; have H2 := Lib.hid h2; have F2 := Lib.hid f2
  clear hq2 h2 f2 y1 yf HT1 H1 F1
  generalize w1.setCell ⟨b, 1, none⟩ (.int .u64 (rlook x.l 0)) = w2 at *
  have y2 := hcell HQ2.out 2
  have yf := hfrz HQ2.out 2
  have hq3 : RTakeAt (w2.setCell ⟨b, 2, none⟩ (.bool true)) b t (rlook x.l 0) true 1 := setCell_same HQ2.out 2 (.bool true)
  have h3 := rset_take (o := 2) H2.out HQ2.out rfl hlo (.bool true)
  have f3 : Fx rTy false b w (w2.setCell ⟨b, 2, none⟩ (.bool true)) := F2.out.trans (set_fx _ _ _ _ _ _)
  have HQ3 := Lib.hid hq3; have H3 := Lib.hid h3; have F3 := Lib.hid f3
  clear hq3 h3 f3 HQ2 H2 F2
  go_upto_region 4 with (fail)
  clear y2 yf
  generalize w2.setCell ⟨b, 2, none⟩ (.bool true) = W2 at *
  obtain ⟨nv, hnv⟩ : ∃ nv, nv = wu (rlook x.l 0 + 1) := ⟨_, rfl⟩
  have e1 : IntKind.u64.wrap (rlook x.l 0 + 1) = nv := hnv.symm
  have HNV := Lib.hid hnv
  clear hnv
  have x3 : ∀ st : ExtW W2, st.val.cell? ⟨b, 3, none⟩ = some (.int .i64 t) := fun st => st.cell (hcell HQ3.out 3)
  have x1 : ∀ st : ExtW W2, st.val.cell? ⟨b, 1, none⟩ = some (.int .u64 (rlook x.l 0)) := fun st => st.cell (hcell HQ3.out 1)
  have ht' : (t : Int) < 64 := by omega
  refine wp_region_ext_tail 13 (by kernel_rfl) (by kernel_rfl) ?_
  simp only [List.take_succ_cons, List.take_zero, List.drop_succ_cons, List.drop_zero]
  repeat (go_big_quiet_step (fail))
  refine wpQuiet_nil ?_
  rintro W3 ⟨⟨W4, hW⟩, rfl⟩
  clear x3 x1
  have h3 := H3.out.keep hW
  have hq3 := (hW.block _ (Array.getElem?_eq_some_iff.1 HQ3.out).1).trans HQ3.out
  have c1 := h3.cellb t ht
  have cf := h3.frz (8 + t)
  obtain ⟨h4, f4⟩ := h3.set (8 + t) (.int .u64 nv) { V with tk := V.tk.set t nv } (val_tk B V h3.tkl t ht nv) rfl rfl (by simp; exact h3.tkl)
  have F4 : Hid (Fx rTy false b w (W3.setCell ⟨B.wb, 8 + t, none⟩ (.int .u64 nv))) := (F3.out.trans ((below_fr hW rTy false).fx b)).trans (f4.fx b)
  have hq4 := f4.cells _ _ _ _ hq3 rfl
  have H4 := Lib.hid h4; have HQ4 := Lib.hid hq4
  clear h3 hq3 h4 f4 hq4 hW
  go_upto_region 5 with (fail)
  generalize W3.setCell ⟨B.wb, 8 + t, none⟩ (.int .u64 nv) = W5 at *
  have y0 := hcell HQ4.out 0
  have yf := hfrz HQ4.out 0
  go_wp2
  go_end0
  rw [← show nv = wu (rlook x.l 0 + 1) from HNV.out]
  have h5 := rset_take (o := 0) H4.out HQ4.out rfl hlo (.int .i64 2)
  rw [← show nv = wu (rlook x.l 0 + 1) from HNV.out] at h5
  exact ⟨rfl, h5, setCell_same HQ4.out 0 _, F4.out.trans (set_fx _ _ _ _ _ _)⟩
omit hlo ht in
set_option maxRecDepth 10000 in
set_option maxHeartbeats 1000000 in
theorem rtstep2n (hT : RTakeAt w b t k d 2) (hk : rlook x.l 1 ≠ k) : Calls Tryz.prog 91 #[.pointer (some ⟨b, 0, none⟩), .pointer (some ⟨B.wb, 0, none⟩)] w fun e w' => e = .returned (.tuple #[]) ∧ RD w0 w' B V (x.acc 1 1 (rlook x.l 1)) ∧ RTakeAt w' b t k d 2 ∧ Fx rTy false b w w' := by
  have hbk : (rlook x.l 1 == k) = false := beq_eq_false_iff_ne.2 hk
  have hld : ∀ W, Below w.heap.size w W → Calls Tryz.prog 75 #[.pointer (some ⟨B.wb, 0, none⟩), .int .u64 1] W fun e w' => e = .returned (.int .u64 (rlook x.l 1)) ∧ RD w0 w' B V (x.acc 1 1 (rlook x.l 1)) ∧ Fr rTy false W w' := fun W hW => rwload (h.keep hW) hr 1 (by decide)
  have y0 := hcell hT 0
  have y1 : w.drew.cell? ⟨b, 1, none⟩ = some (.int .u64 k) := hcell (w := w.drew) hT 1
  have hlw := hld w.drew (Below.refl w.heap.size w).drew
  have HT := Lib.hid hT
  clear h hr hT hld hk
  go_enter Tryz.func91, Tryz.ntmps91
  go_upto_region 7 with (fail)
  clear y0
  go_region_with (go_at_call 75; refine hlw.mono ?_; rintro e w2 ⟨rfl, h2, f2⟩; have HT2 : Hid (RTakeAt w2 b t k d 2) := f2.cells _ _ _ _ HT.out rfl; have z1 := hcell HT2.out 1; have H2 := Lib.hid h2; have F2 := Lib.hid f2; clear h2 f2 y1 hlw)
  all_goals (clear z1)
  all_goals go_wp2
  all_goals go_end0
  all_goals exact ⟨rfl, H2.out, HT2.out, ⟨F2.out.size, fun k cs T fr h1 h2 _ => F2.out.cells k cs T fr h1 h2, fun h k es cl h1 _ => F2.out.map h k es cl h1⟩⟩
set_option maxRecDepth 10000 in
set_option maxHeartbeats 1000000 in
theorem rtstep2y (hT : RTakeAt w b t (rlook x.l 1) d 2) : Calls Tryz.prog 91 #[.pointer (some ⟨b, 0, none⟩), .pointer (some ⟨B.wb, 0, none⟩)] w fun e w' => e = .returned (.tuple #[]) ∧ RD w0 w' B { V with tk := V.tk.set t 0, hd := t } (x.acc 1 1 (rlook x.l 1)) ∧ RTakeAt w' b t (rlook x.l 1) d 0 ∧ Fx rTy false b w w' := by
  have hld : ∀ W, Below w.heap.size w W → Calls Tryz.prog 75 #[.pointer (some ⟨B.wb, 0, none⟩), .int .u64 1] W fun e w' => e = .returned (.int .u64 (rlook x.l 1)) ∧ RD w0 w' B V (x.acc 1 1 (rlook x.l 1)) ∧ Fr rTy false W w' := fun W hW => rwload (h.keep hW) hr 1 (by decide)
  have y0 := hcell hT 0
  have y1 : w.drew.cell? ⟨b, 1, none⟩ = some (.int .u64 (rlook x.l 1)) := hcell (w := w.drew) hT 1
  have hlw := hld w.drew (Below.refl w.heap.size w).drew
  have HT := Lib.hid hT
  clear h hr hT hld
  generalize rlook x.l 1 = k at *
  generalize hx' : x.acc 1 1 k = x' at *
  clear hx'
  go_enter Tryz.func91, Tryz.ntmps91
  go_upto_region 7 with (fail)
  clear y0
  go_region_with (go_at_call 75; refine hlw.mono ?_; rintro e w2 ⟨rfl, h2, f2⟩; have HT2 : Hid (RTakeAt w2 b t k d 2) := f2.cells _ _ _ _ HT.out rfl; have z1 := hcell HT2.out 1; have H2 := Lib.hid h2; have F2 := Lib.hid f2; clear h2 f2 y1 hlw)
  all_goals (clear z1)
  all_goals go_upto_region 8 with (fail)
  all_goals (try simp only [List.getElem_toArray, List.getElem_cons_succ, List.getElem_cons_zero])
  all_goals (try go_frame)
  all_goals (have x3 : ∀ st : ExtW w2, st.val.cell? ⟨b, 3, none⟩ = some (.int .i64 t) := fun st => st.cell (hcell HT2.out 3))
  all_goals (have ht' : (t : Int) < 64 := (by omega))
  all_goals (refine wp_region_ext_tail 8 (by kernel_rfl) (by kernel_rfl) ?_)
  all_goals (simp only [List.take_succ_cons, List.take_zero, List.drop_succ_cons, List.drop_zero])
  all_goals (repeat (go_big_quiet_step (fail)))
  all_goals (refine wpQuiet_nil ?_)
  all_goals (rintro W3 ⟨⟨W4, hW⟩, rfl⟩)
  all_goals (
    clear x3
    have h3 := H2.out.keep hW
    have hq3 := (hW.block _ (Array.getElem?_eq_some_iff.1 HT2.out).1).trans HT2.out
    have c1 := h3.cellb t ht
    have cf := h3.frz (8 + t)
    obtain ⟨h4, f4⟩ := h3.set (8 + t) (.int .u64 0) { V with tk := V.tk.set t 0 } (val_tk B V h3.tkl t ht 0) rfl rfl (by simp; exact h3.tkl)
    have F4 : Hid (Fx rTy false b w (W3.setCell ⟨B.wb, 8 + t, none⟩ (.int .u64 0))) := ((show Fx rTy false b w w2 from ⟨F2.out.size, fun k cs T fr h1 h2 _ => F2.out.cells k cs T fr h1 h2, fun h k es cl h1 _ => F2.out.map h k es cl h1⟩).trans ((below_fr hW rTy false).fx b)).trans (f4.fx b)
    have hq4 := f4.cells _ _ _ _ hq3 rfl
    have H4 := Lib.hid h4; have HQ4 := Lib.hid hq4
    clear h3 hq3 h4 f4 hq4 hW)
  all_goals go_upto_region 9 with (fail)
  all_goals (
    generalize W3.setCell ⟨B.wb, 8 + t, none⟩ (.int .u64 0) = W5 at *
    clear c1 cf
    have y3 := hcell HQ4.out 3
    have g72 := H4.out.hcell'
    have gf := H4.out.frz 72
    obtain ⟨h6, f6⟩ := H4.out.set 72 (.int .i64 t) { V with tk := V.tk.set t 0, hd := t } (val_hd B _ H4.out.tkl t) rfl rfl H4.out.tkl
    have hq6 : RTakeAt (W5.setCell ⟨B.wb, 72, none⟩ (.int .i64 t)) b t k d 2 := f6.cells _ _ _ _ HQ4.out rfl
    have H6 := Lib.hid h6; have HQ6 := Lib.hid hq6; have F6 := Lib.hid (F4.out.trans (f6.fx b))
    clear h6 hq6 f6 H4 HQ4 F4)
  all_goals go_upto_region 10 with (fail)
  all_goals (
    generalize W5.setCell ⟨B.wb, 72, none⟩ (.int .i64 t) = W7 at *
    clear y3 g72 gf
    have y0 := hcell HQ6.out 0
    have yf := hfrz HQ6.out 0)
  all_goals go_wp2
  all_goals go_end0
  all_goals exact ⟨rfl, rset_take H6.out HQ6.out rfl hlo _, setCell_same HQ6.out 0 _, F6.out.trans (set_fx _ _ _ _ _ _)⟩
omit hr hlo in
set_option maxRecDepth 10000 in
theorem rwaits : Calls Tryz.prog 26 #[.pointer (some ⟨B.wb, 0, none⟩), .int .i64 t] w fun e w' => e = .returned (.bool (V.tk.getD t 0 != 0 && IntKind.u64.wrap (rlook x.l 1 + 1) != V.tk.getD t 0)) ∧ Below w.heap.size w w' := by
  have h0 : decide ((t : Int) < 0) = false := decide_eq_false (by omega)
  have h1 : decide ((63 : Int) < t) = false := decide_eq_false (by omega)
  have ht' : (t : Int) < 64 := by omega
  have c1 := h.cellb t ht
  have x1 : ∀ st : ExtW w, st.val.cell? ⟨B.wb, 8 + t, none⟩ = some (.int .u64 (V.tk.getD t 0)) := fun st => st.cell c1
  have m1 : ∀ st : ExtW w, Calls Tryz.prog 95 #[.pointer (some ⟨B.wb, 0, none⟩), .int .u64 1] st.val fun e w' => e = .returned (.int .u64 (rlook x.l 1)) ∧ st.val = w' := fun st => (rwpeek (h.keep st.below) 1).mono fun e w' ⟨h1, h2⟩ => ⟨h1, h2.symm⟩
  clear h
  generalize V.tk.getD t 0 = v at *
  generalize rlook x.l 1 = y at *
  by_cases hv : v = 0
  · subst hv
    go_enter Tryz.func26, Tryz.ntmps26
    go_wp2
    go_ret
    exact ⟨rfl, Below.refl _ _⟩
  · have hv0 : (v == 0) = false := beq_eq_false_iff_ne.2 hv
    have hv1 : (v != 0) = true := bne_iff_ne.2 hv
    rw [hv1, Bool.true_and]
    clear hv hv1
    go_enter Tryz.func26, Tryz.ntmps26
    go_upto_region 3 with (fail)
    clear h0 h1 c1
    refine wp_region_ext (by kernel_rfl) (by kernel_rfl) ?_
    repeat (go_big_quiet_step ((go_at_call 95; refine calls_ext_same (m1 _))))
    refine wpQuiet_nil ?_
    rintro W ⟨⟨W2, hW⟩, rfl⟩
    clear x1 m1
    go_wp2
    go_ret
    exact ⟨rfl, hW⟩
end
end Go.Proofs.YtddflihgadlafaaGreat

/-
  Tickets: a step of a Take, of a Give, on both sides.
-/
namespace Go.Proofs.YtddflihgadlafaaGreat
open Go.RowKit Go.Maps
set_option linter.unusedVariables false

/-- An operation of a thread: none, a Take (its ticket, was it drawn, its line), a Give (what is left). -/
inductive OpS where
  | none
  | take (k : Int) (d : Bool) (ln : Nat)
  | give (l : Nat)
/-- What both sides' worlds are. -/
structure PS where
  V : WV
  s : CS
  x : RS
/-- A step, on both sides. -/
def OpS.next (t : Nat) (p : PS) : OpS → OpS × PS
  | .none => (.none, p)
  | .take k d 0 => (.take k d 0, p)
  | .take k d 1 => (.take (p.s.val 0) true 2, ⟨{ p.V with tk := p.V.tk.set t (wu (p.s.val 0 + 1)) }, p.s.acc 4 0 (wu (p.s.val 0 + 1)), p.x.acc 4 0 (wu (p.s.val 0 + 1))⟩)
  | .take k d (n + 2) => if p.s.val 1 = k then (.take k d 0, ⟨{ p.V with tk := p.V.tk.set t 0, hd := t }, p.s.acc 1 1 (p.s.val 1), p.x.acc 1 1 (p.s.val 1)⟩) else (.take k d (n + 2), ⟨p.V, p.s.acc 1 1 (p.s.val 1), p.x.acc 1 1 (p.s.val 1)⟩)
  | .give 0 => (.give 0, p)
  | .give (n + 1) => (.give 0, ⟨{ p.V with hd := -1 }, p.s.acc 4 1 (wu (p.s.val 1 + 1)), p.x.acc 4 1 (wu (p.s.val 1 + 1))⟩)
structure PSok (p : PS) (m : Nat) : Prop where
  al : Alike p.s p.x
  far : Far p.s p.x m
theorem next_ok {t : Nat} {p : PS} {m : Nat} (h : PSok p m) (o : OpS) : PSok (o.next t p).2 (m + 1) := by
  have hle : PSok p (m + 1) := ⟨h.al, ⟨Nat.le_succ_of_le h.far.1, Nat.le_succ_of_le h.far.2.1, Nat.le_succ_of_le h.far.2.2⟩⟩
  match o with
  | .none => exact hle
  | .take k d 0 => exact hle
  | .take k d 1 => exact ⟨h.al.acc _ _ _, h.far.acc h.al _ _ _⟩
  | .take k d (n + 2) =>
    show PSok (if p.s.val 1 = k then _ else _ : OpS × PS).2 (m + 1)
    split
    · exact ⟨h.al.acc _ _ _, h.far.acc h.al _ _ _⟩
    · exact ⟨h.al.acc _ _ _, h.far.acc h.al _ _ _⟩
  | .give 0 => exact hle
  | .give (n + 1) => exact ⟨h.al.acc _ _ _, h.far.acc h.al _ _ _⟩
theorem next_nts {t : Nat} {p : PS} (o : OpS) : (o.next t p).2.V.nts = p.V.nts ∧ (o.next t p).2.V.its = p.V.its := by
  match o with
  | .none => exact ⟨rfl, rfl⟩
  | .take k d 0 => exact ⟨rfl, rfl⟩
  | .take k d 1 => exact ⟨rfl, rfl⟩
  | .take k d (n + 2) =>
    show (if p.s.val 1 = k then _ else _ : OpS × PS).2.V.nts = _ ∧ (if p.s.val 1 = k then _ else _ : OpS × PS).2.V.its = _
    split <;> exact ⟨rfl, rfl⟩
  | .give 0 => exact ⟨rfl, rfl⟩
  | .give (n + 1) => exact ⟨rfl, rfl⟩
/-- The operation in memory: the program's object, and the document's. -/
def OpP (w : World) (base t b : Nat) : OpS → Prop
  | .none => True
  | .take k d ln => TakeAt w b t k d ln ∧ base ≤ b
  | .give l => GiveAt w b l ∧ base ≤ b
def OpR (w : World) (base t b : Nat) : OpS → Prop
  | .none => True
  | .take k d ln => RTakeAt w b t k d ln ∧ base ≤ b
  | .give l => RGiveAt w b l ∧ base ≤ b
def OpS.over : OpS → Bool
  | .none => true
  | .take _ _ ln => decide (ln = 0)
  | .give l => decide (l = 0)
def OpS.ok : OpS → Prop
  | .none => True
  | .take _ _ ln => ln ≤ 2
  | .give l => l ≤ 1
theorem next_isok {t : Nat} {p : PS} (o : OpS) (h : o.ok) : (o.next t p).1.ok := by
  match o, h with
  | .none, _ => exact trivial
  | .take k d 0, _ => exact Nat.zero_le _
  | .take k d 1, _ => exact Nat.le_refl _
  | .take k d (n + 2), h =>
    show (if p.s.val 1 = k then _ else _ : OpS × PS).1.ok
    split
    · exact Nat.zero_le _
    · exact h
  | .give 0, _ => exact Nat.zero_le _
  | .give (n + 1), _ => exact Nat.zero_le _
section
variable {w0 w : World} {B : WB} {t b : Nat} {p : PS} {m : Nat}
/-- The program's Take. -/
theorem take_step {k : Int} {d : Bool} {ln : Nat} (hp : PSok p m) (hm : m ≤ 90000) (ht : t < 64) (hln : ln ≤ 2) (h : WS w0 w B p.V p.s) (ho : OpP w w0.heap.size t b (.take k d ln)) :
    Calls Tryz.prog 84 #[.pointer (some ⟨b, 0, none⟩), .pointer (some ⟨B.wb, 0, none⟩)] w fun e w' => e = .returned (.bool ((OpS.take k d ln).next t p).1.over) ∧ WS w0 w' B ((OpS.take k d ln).next t p).2.V ((OpS.take k d ln).next t p).2.s ∧ OpP w' w0.heap.size t b ((OpS.take k d ln).next t p).1 ∧ Fx wTy true b w w' := by
  obtain ⟨hr, -⟩ := far_rooms hp.far hp.al hm
  obtain ⟨hT, hlo⟩ := ho
  match ln, hln with
  | 0, _ => exact (tstep0 hT _ (.inr ⟨_, rfl⟩)).mono fun e w' ⟨he, hw⟩ => ⟨he, hw ▸ h, hw ▸ ⟨hT, hlo⟩, hw ▸ (Fr.refl wTy true w).fx b⟩
  | 1, _ => exact (tstep1 h hr hlo ht hT).mono fun e w' ⟨he, hw, hT', hf⟩ => ⟨he, hw, ⟨hT', hlo⟩, hf⟩
  | 2, _ =>
    by_cases hk : p.s.val 1 = k
    · have e1 : (OpS.take k d 2).next t p = (.take k d 0, ⟨{ p.V with tk := p.V.tk.set t 0, hd := t }, p.s.acc 1 1 (p.s.val 1), p.x.acc 1 1 (p.s.val 1)⟩) := if_pos hk
      rw [e1]
      have hT' : TakeAt w b t (p.s.val 1) d 2 := by rw [hk]; exact hT
      exact (tstep2y h hr hlo ht hT').mono fun e w' ⟨he, hw, hT2, hf⟩ => ⟨he, hw, ⟨by rw [← hk]; exact hT2, hlo⟩, hf⟩
    · have e1 : (OpS.take k d 2).next t p = (.take k d 2, ⟨p.V, p.s.acc 1 1 (p.s.val 1), p.x.acc 1 1 (p.s.val 1)⟩) := if_neg hk
      rw [e1]
      exact (tstep2n h hr hT hk).mono fun e w' ⟨he, hw, hT2, hf⟩ => ⟨he, hw, ⟨hT2, hlo⟩, hf⟩
theorem give_step {l : Nat} (hp : PSok p m) (hm : m ≤ 90000) (hl : l ≤ 1) (h : WS w0 w B p.V p.s) (ho : OpP w w0.heap.size t b (.give l)) :
    Calls Tryz.prog 85 #[.pointer (some ⟨b, 0, none⟩), .pointer (some ⟨B.wb, 0, none⟩)] w fun e w' => e = .returned (.bool ((OpS.give l).next t p).1.over) ∧ WS w0 w' B ((OpS.give l).next t p).2.V ((OpS.give l).next t p).2.s ∧ OpP w' w0.heap.size t b ((OpS.give l).next t p).1 ∧ Fx wTy true b w w' := by
  obtain ⟨hr, -⟩ := far_rooms hp.far hp.al hm
  obtain ⟨hG, hlo⟩ := ho
  match l, hl with
  | 0, _ => exact (gstep_void hG _).mono fun e w' ⟨he, hw⟩ => ⟨he, hw ▸ h, hw ▸ ⟨hG, hlo⟩, hw ▸ (Fr.refl wTy true w).fx b⟩
  | 1, _ => exact (gstep h hr hlo hG).mono fun e w' ⟨he, hw, hG', hf⟩ => ⟨he, hw, ⟨hG', hlo⟩, hf⟩
theorem rtake_step {k : Int} {d : Bool} {ln : Nat} (hp : PSok p m) (hm : m ≤ 90000) (ht : t < 64) (hln : ln ≤ 2) (h : RD w0 w B p.V p.x) (ho : OpR w w0.heap.size t b (.take k d ln)) :
    Calls Tryz.prog 91 #[.pointer (some ⟨b, 0, none⟩), .pointer (some ⟨B.wb, 0, none⟩)] w fun e w' => e = .returned (.tuple #[]) ∧ RD w0 w' B ((OpS.take k d ln).next t p).2.V ((OpS.take k d ln).next t p).2.x ∧ OpR w' w0.heap.size t b ((OpS.take k d ln).next t p).1 ∧ Fx rTy false b w w' := by
  obtain ⟨-, hr⟩ := far_rooms hp.far hp.al hm
  obtain ⟨hT, hlo⟩ := ho
  have hl0 : rlook p.x.l 0 = p.s.val 0 := (congrFun hp.al.val 0).symm
  have hl1 : rlook p.x.l 1 = p.s.val 1 := (congrFun hp.al.val 1).symm
  match ln, hln with
  | 0, _ => exact (rtstep0 hT _).mono fun e w' ⟨he, hw⟩ => ⟨he, hw ▸ h, hw ▸ ⟨hT, hlo⟩, hw ▸ (Fr.refl rTy false w).fx b⟩
  | 1, _ =>
    have := rtstep1 h hr hlo ht hT
    rw [hl0] at this
    exact this.mono fun e w' ⟨he, hw, hT', hf⟩ => ⟨he, hw, ⟨hT', hlo⟩, hf⟩
  | 2, _ =>
    by_cases hk : p.s.val 1 = k
    · have e1 : (OpS.take k d 2).next t p = (.take k d 0, ⟨{ p.V with tk := p.V.tk.set t 0, hd := t }, p.s.acc 1 1 (p.s.val 1), p.x.acc 1 1 (p.s.val 1)⟩) := if_pos hk
      rw [e1]
      have hT' : RTakeAt w b t (rlook p.x.l 1) d 2 := by rw [hl1, hk]; exact hT
      have := rtstep2y h hr hlo ht hT'
      rw [hl1] at this
      exact this.mono fun e w' ⟨he, hw, hT2, hf⟩ => ⟨he, hw, ⟨by rw [← hk]; exact hT2, hlo⟩, hf⟩
    · have e1 : (OpS.take k d 2).next t p = (.take k d 2, ⟨p.V, p.s.acc 1 1 (p.s.val 1), p.x.acc 1 1 (p.s.val 1)⟩) := if_neg hk
      rw [e1]
      have := rtstep2n h hr hT (by rw [hl1]; exact hk)
      rw [hl1] at this
      exact this.mono fun e w' ⟨he, hw, hT2, hf⟩ => ⟨he, hw, ⟨hT2, hlo⟩, hf⟩
theorem rgive_step {l : Nat} (hp : PSok p m) (hm : m ≤ 90000) (hl : l ≤ 1) (h : RD w0 w B p.V p.x) (ho : OpR w w0.heap.size t b (.give l)) :
    Calls Tryz.prog 90 #[.pointer (some ⟨b, 0, none⟩), .pointer (some ⟨B.wb, 0, none⟩)] w fun e w' => e = .returned (.tuple #[]) ∧ RD w0 w' B ((OpS.give l).next t p).2.V ((OpS.give l).next t p).2.x ∧ OpR w' w0.heap.size t b ((OpS.give l).next t p).1 ∧ Fx rTy false b w w' := by
  obtain ⟨-, hr⟩ := far_rooms hp.far hp.al hm
  obtain ⟨hG, hlo⟩ := ho
  have hl1 : rlook p.x.l 1 = p.s.val 1 := (congrFun hp.al.val 1).symm
  match l, hl with
  | 0, _ => exact (rgstep0 hG _).mono fun e w' ⟨he, hw⟩ => ⟨he, hw ▸ h, hw ▸ ⟨hG, hlo⟩, hw ▸ (Fr.refl rTy false w).fx b⟩
  | 1, _ =>
    have := rgstep1 h hr hlo hG
    rw [hl1] at this
    exact this.mono fun e w' ⟨he, hw, hG', hf⟩ => ⟨he, hw, ⟨hG', hlo⟩, hf⟩
end
end Go.Proofs.YtddflihgadlafaaGreat

/-
  TicketsPlay: is an operation the same on both sides; a step of both.
-/
namespace Go.Proofs.YtddflihgadlafaaGreat
open Go.RowKit Go.Maps
set_option linter.unusedVariables false

def opV (pb xb : Nat) : OpS → List Value
  | .none => [.pointer none, .pointer none, .pointer none, .pointer none]
  | .take _ _ _ => [.pointer (some ⟨pb, 0, none⟩), .pointer none, .pointer (some ⟨xb, 0, none⟩), .pointer none]
  | .give _ => [.pointer none, .pointer (some ⟨pb, 0, none⟩), .pointer none, .pointer (some ⟨xb, 0, none⟩)]
theorem OpP.below {w w' : World} {base t b : Nat} {o : OpS} (h : OpP w base t b o) (hb : Below w.heap.size w w') : OpP w' base t b o := by
  cases o with
  | none => trivial
  | take k d ln => exact ⟨h.1.below hb, h.2⟩
  | give l => exact ⟨(hb.block _ h.1.lt).trans h.1, h.2⟩
theorem OpR.below {w w' : World} {base t b : Nat} {o : OpS} (h : OpR w base t b o) (hb : Below w.heap.size w w') : OpR w' base t b o := by
  cases o with
  | none => trivial
  | take k d ln => exact ⟨(hb.block _ (Array.getElem?_eq_some_iff.1 h.1).1).trans h.1, h.2⟩
  | give l => exact ⟨(hb.block _ (Array.getElem?_eq_some_iff.1 h.1).1).trans h.1, h.2⟩
theorem same_none (w : World) : Calls Tryz.prog 24 #[.agg #[.pointer none, .pointer none, .pointer none, .pointer none]] w fun e w' => e = .returned (.bool true) ∧ Below w.heap.size w w' := by
  have hb := below_alloc w (.cells #[.pointer none, .pointer none, .pointer none, .pointer none] 63)
  have z := heap_alloc_new w (.cells #[.pointer none, .pointer none, .pointer none, .pointer none] 63)
  have HB := Lib.hid hb
  go_enter Tryz.func24, Tryz.ntmps24
  go_upto_region 1 with (fail)
  change Code.wp _ _ _ _ (w.alloc (.cells #[.pointer none, .pointer none, .pointer none, .pointer none] 63))
  generalize w.alloc (.cells #[.pointer none, .pointer none, .pointer none, .pointer none] 63) = w1 at *
  have c2 := hcell z 2
  have c3 := hcell z 3
  clear z hb
  go_wp2
  go_ret
  exact ⟨rfl, HB.out⟩
set_option maxRecDepth 10000 in
set_option maxHeartbeats 1000000 in
theorem same_give {w : World} {pb xb l : Nat} (hl : l ≤ 1) (hp : GiveAt w pb l) (hr : RGiveAt w xb l) : Calls Tryz.prog 24 #[.agg #[.pointer none, .pointer (some ⟨pb, 0, none⟩), .pointer none, .pointer (some ⟨xb, 0, none⟩)]] w fun e w' => e = .returned (.bool true) ∧ Below w.heap.size w w' := by
  have hb := below_alloc w (.cells #[.pointer none, .pointer (some ⟨pb, 0, none⟩), .pointer none, .pointer (some ⟨xb, 0, none⟩)] 63)
  have z := heap_alloc_new w (.cells #[.pointer none, .pointer (some ⟨pb, 0, none⟩), .pointer none, .pointer (some ⟨xb, 0, none⟩)] 63)
  have hp1 : GiveAt (w.alloc (.cells #[.pointer none, .pointer (some ⟨pb, 0, none⟩), .pointer none, .pointer (some ⟨xb, 0, none⟩)] 63)) pb l := (hb.block _ hp.lt).trans hp
  have hr1 : RGiveAt (w.alloc (.cells #[.pointer none, .pointer (some ⟨pb, 0, none⟩), .pointer none, .pointer (some ⟨xb, 0, none⟩)] 63)) xb l := (hb.block _ (Array.getElem?_eq_some_iff.1 hr).1).trans hr
  have HB := Lib.hid hb; have HP := Lib.hid hp1; have HR := Lib.hid hr1
  clear hb hp hr hp1 hr1
  go_enter Tryz.func24, Tryz.ntmps24
  go_upto_region 1 with (fail)
  change Code.wp _ _ _ _ (w.alloc (.cells #[.pointer none, .pointer (some ⟨pb, 0, none⟩), .pointer none, .pointer (some ⟨xb, 0, none⟩)] 63))
  generalize w.alloc (.cells #[.pointer none, .pointer (some ⟨pb, 0, none⟩), .pointer none, .pointer (some ⟨xb, 0, none⟩)] 63) = w1 at *
  have c3 := hcell z 3
  go_upto_region 2 with (fail)
  clear c3
  have x1 : ∀ st : ExtW w1, st.val.cell? ⟨w.heap.size, 1, none⟩ = some (.pointer (some ⟨pb, 0, none⟩)) := fun st => st.cell (hcell z 1)
  have x3 : ∀ st : ExtW w1, st.val.cell? ⟨w.heap.size, 3, none⟩ = some (.pointer (some ⟨xb, 0, none⟩)) := fun st => st.cell (hcell z 3)
  have x0 : ∀ st : ExtW w1, st.val.cell? ⟨xb, 0, none⟩ = some (.int .i64 l) := fun st => st.cell (hcell HR.out 0)
  have m1 : ∀ st : ExtW w1, Calls Tryz.prog 92 #[.pointer (some ⟨pb, 0, none⟩)] st.val fun e w' => e = .returned (.bool ((l : Int) == 0)) ∧ st.val = w' := fun st => (gover ((st.below.block _ HP.out.lt).trans HP.out) _ rfl).mono fun e w' ⟨h1, h2⟩ => ⟨h1, h2.symm⟩
  clear z
  rcases (show l = 0 ∨ l = 1 by omega) with rfl | rfl
  all_goals
    refine wp_region_ext (by kernel_rfl) (by kernel_rfl) ?_
    repeat (go_big_quiet_step ((go_at_call 92; refine calls_ext_same (m1 _))))
    refine wpQuiet_nil ?_
    rintro W ⟨⟨W2, hW⟩, rfl⟩
    clear x0 x1 x3 m1
    go_wp2
    go_ret
    exact ⟨rfl, HB.out.trans (hW.mono HB.out.size)⟩
set_option maxRecDepth 10000 in
set_option maxHeartbeats 1000000 in
theorem same_take {w : World} {pb xb t ln : Nat} {k : Int} {d : Bool} (hl : ln ≤ 2) (hp : TakeAt w pb t k d ln) (hr : RTakeAt w xb t k d ln) : Calls Tryz.prog 24 #[.agg #[.pointer (some ⟨pb, 0, none⟩), .pointer none, .pointer (some ⟨xb, 0, none⟩), .pointer none]] w fun e w' => e = .returned (.bool true) ∧ Below w.heap.size w w' := by
  have hb := below_alloc w (.cells #[.pointer (some ⟨pb, 0, none⟩), .pointer none, .pointer (some ⟨xb, 0, none⟩), .pointer none] 63)
  have z := heap_alloc_new w (.cells #[.pointer (some ⟨pb, 0, none⟩), .pointer none, .pointer (some ⟨xb, 0, none⟩), .pointer none] 63)
  have hp1 := hp.below hb
  have hr1 : RTakeAt (w.alloc (.cells #[.pointer (some ⟨pb, 0, none⟩), .pointer none, .pointer (some ⟨xb, 0, none⟩), .pointer none] 63)) xb t k d ln := (hb.block _ (Array.getElem?_eq_some_iff.1 hr).1).trans hr
  have HB := Lib.hid hb; have HP := Lib.hid hp1; have HR := Lib.hid hr1; have HZ := Lib.hid z
  clear hb hp hr hp1 hr1
  go_enter Tryz.func24, Tryz.ntmps24
  go_upto_region 1 with (fail)
  change Code.wp _ _ _ _ (w.alloc (.cells #[.pointer (some ⟨pb, 0, none⟩), .pointer none, .pointer (some ⟨xb, 0, none⟩), .pointer none] 63))
  generalize w.alloc (.cells #[.pointer (some ⟨pb, 0, none⟩), .pointer none, .pointer (some ⟨xb, 0, none⟩), .pointer none] 63) = w1 at *
  have c0 := hcell z 0
  have c2 := hcell z 2
  have c3 := hcell z 3
  clear z
  go_upto_region 6 with (go_at_call 93; refine (got_any HP.out).mono ?_; rintro e w2 ⟨rfl, b2⟩; have HB2 : Hid (Below w.heap.size w w2) := HB.out.trans (b2.mono HB.out.size); have HP2 := Lib.hid (HP.out.below b2); have HR2 := Lib.hid ((b2.block _ (Array.getElem?_eq_some_iff.1 HR.out).1).trans HR.out); have HZ2 := Lib.hid ((b2.block _ (Array.getElem?_eq_some_iff.1 HZ.out).1).trans HZ.out); clear b2 c0 c2 c3)
  have x1 : ∀ st : ExtW w2, st.val.cell? ⟨w.heap.size, 0, none⟩ = some (.pointer (some ⟨pb, 0, none⟩)) := fun st => st.cell (hcell HZ2.out 0)
  have x3 : ∀ st : ExtW w2, st.val.cell? ⟨w.heap.size, 2, none⟩ = some (.pointer (some ⟨xb, 0, none⟩)) := fun st => st.cell (hcell HZ2.out 2)
  have y0 : ∀ st : ExtW w2, st.val.cell? ⟨xb, 0, none⟩ = some (.int .i64 ln) := fun st => st.cell (hcell HR2.out 0)
  have y1 : ∀ st : ExtW w2, st.val.cell? ⟨xb, 1, none⟩ = some (.int .u64 k) := fun st => st.cell (hcell HR2.out 1)
  have y2 : ∀ st : ExtW w2, st.val.cell? ⟨xb, 2, none⟩ = some (.bool d) := fun st => st.cell (hcell HR2.out 2)
  have m1 : ∀ st : ExtW w2, Calls Tryz.prog 94 #[.pointer (some ⟨pb, 0, none⟩)] st.val fun e w' => e = .returned (.bool (decide (ln = 0))) ∧ st.val = w' := fun st => (tover (HP2.out.below st.below) _ rfl).mono fun e w' ⟨h1, h2⟩ => ⟨h1, h2.symm⟩
  clear HP HR HZ HB
  cases d
  all_goals rcases (show ln = 0 ∨ ln = 1 ∨ ln = 2 by omega) with rfl | rfl | rfl
  all_goals
    refine wp_region_ext (by kernel_rfl) (by kernel_rfl) ?_
    repeat (go_big_quiet_step ((go_at_call 94; refine calls_ext_same (m1 _))))
    refine wpQuiet_nil ?_
    rintro W ⟨⟨W2, hW⟩, rfl⟩
    clear x1 x3 y0 y1 y2 m1
    go_wp2
    go_ret
    exact ⟨rfl, HB2.out.trans (hW.mono HB2.out.size)⟩
theorem osame_any {w : World} {base t pb xb : Nat} {o : OpS} (hok : o.ok) (hp : OpP w base t pb o) (hr : OpR w base t xb o) : Calls Tryz.prog 24 #[.agg (opV pb xb o).toArray] w fun e w' => e = .returned (.bool true) ∧ Below w.heap.size w w' := by
  cases o with
  | none => exact same_none w
  | take k d ln => exact same_take hok hp.1 hr.1
  | give l => exact same_give hok hp.1 hr.1
end Go.Proofs.YtddflihgadlafaaGreat

/-
  TicketsPlay: a step of an operation, of both sides.
-/
namespace Go.Proofs.YtddflihgadlafaaGreat
open Go.RowKit Go.Maps
set_option linter.unusedVariables false

/-- Of the old blocks only two, and such of both worlds, have turned. -/
structure TwoR (b1 b2 : Nat) (w w' : World) : Prop where
  size : w.heap.size ≤ w'.heap.size
  cells : ∀ (k : Nat) (cs : Array Value) (T : TypeId) (fr : Nat × Nat), w.heap[k]? = some (.cells cs T fr) → wrTy T = false → k ≠ b1 → k ≠ b2 → w'.heap[k]? = some (.cells cs T fr)
theorem wr_parts {T : TypeId} (h : wrTy T = false) : wTy T = false ∧ rTy T = false := by unfold wrTy at h; simpa only [Bool.or_eq_false_iff] using h
theorem TwoR.trans {b1 b2 : Nat} {a c d : World} (h : TwoR b1 b2 a c) (k : TwoR b1 b2 c d) : TwoR b1 b2 a d :=
  ⟨Nat.le_trans h.size k.size, fun i cs T fr hi hT h1 h2 => k.cells i cs T fr (h.cells i cs T fr hi hT h1 h2) hT h1 h2⟩
theorem Fx.twoP {mp : Bool} {b1 b2 : Nat} {w w' : World} (h : Fx wTy mp b1 w w') : TwoR b1 b2 w w' := ⟨h.size, fun k cs T fr h1 h2 h3 _ => h.cells k cs T fr h1 (wr_parts h2).1 h3⟩
theorem Fx.twoQ {mp : Bool} {b1 b2 : Nat} {w w' : World} (h : Fx rTy mp b2 w w') : TwoR b1 b2 w w' := ⟨h.size, fun k cs T fr h1 h2 _ h3 => h.cells k cs T fr h1 (wr_parts h2).2 h3⟩
theorem Below.twoR {b1 b2 : Nat} {w w' : World} (h : Below w.heap.size w w') : TwoR b1 b2 w w' := ⟨h.size, fun k cs T fr h1 _ _ _ => (h.block k (Array.getElem?_eq_some_iff.1 h1).1).trans h1⟩
/-- The block of an operation's object, on each side. -/
theorem OpP.blk {w : World} {base t b : Nat} {o : OpS} (h : OpP w base t b o) (hn : o ≠ .none) : ∃ cs T, w.heap[b]? = some (.cells cs T (0, 0)) ∧ (T = 190 ∨ T = 195) := by
  cases o with
  | none => exact absurd rfl hn
  | take k d ln => exact ⟨_, _, h.1, .inl rfl⟩
  | give l => exact ⟨_, _, h.1, .inr rfl⟩
theorem OpR.blk {w : World} {base t b : Nat} {o : OpS} (h : OpR w base t b o) (hn : o ≠ .none) : ∃ cs T, w.heap[b]? = some (.cells cs T (0, 0)) ∧ (T = 193 ∨ T = 197) := by
  cases o with
  | none => exact absurd rfl hn
  | take k d ln => exact ⟨_, _, h.1, .inl rfl⟩
  | give l => exact ⟨_, _, h.1, .inr rfl⟩
theorem blk_ne {w : World} {a b : Nat} {c1 c2 : Array Value} {T1 T2 : TypeId} {f1 f2 : Nat × Nat} (h1 : w.heap[a]? = some (.cells c1 T1 f1)) (h2 : w.heap[b]? = some (.cells c2 T2 f2)) (h : T1 ≠ T2) : a ≠ b := fun e => by
  subst e
  have := h1.symm.trans h2
  simp only [Option.some.injEq, Obj.cells.injEq] at this
  exact h this.2.1
/-- The program's side, beside a step of the document's; and the other way. -/
theorem ws_beside {w0 w w' : World} {B : WB} {V : WV} {s : CS} {xb : Nat} {cs : Array Value} {T : TypeId} {fr : Nat × Nat} (h : WS w0 w B V s) (hf : Fx rTy false xb w w') (hb : w.heap[xb]? = some (.cells cs T fr)) (hT : wTy T = false) (hB : Below w0.heap.size w0 w') : WS w0 w' B V s :=
  h.fx hf w_not_r hb hT hB
theorem rd_beside {w0 w w' : World} {B : WB} {V : WV} {x : RS} {tb : Nat} {cs : Array Value} {T : TypeId} {fr : Nat × Nat} (h : RD w0 w B V x) (hf : Fx wTy true tb w w') (hb : w.heap[tb]? = some (.cells cs T fr)) (hT : rTy T = false) (hB : Below w0.heap.size w0 w') : RD w0 w' B V x :=
  h.fr (hf.fr hb) (fun X hX => by
    simp only [Bool.or_eq_false_iff]
    refine ⟨r_not_w X hX, ?_⟩
    cases hXT : (X == T)
    · rfl
    · rw [beq_iff_eq] at hXT; subst hXT; rw [hX] at hT; cases hT) hB
theorem next_take (t : Nat) (p : PS) (k : Int) (d : Bool) (ln : Nat) (h : ln ≤ 2) : ∃ k' d' ln', ((OpS.take k d ln).next t p).1 = .take k' d' ln' ∧ ln' ≤ 2 := by
  match ln, h with
  | 0, _ => exact ⟨k, d, 0, rfl, by omega⟩
  | 1, _ => exact ⟨_, _, 2, rfl, by omega⟩
  | 2, _ =>
    by_cases hk : p.s.val 1 = k
    · exact ⟨k, d, 0, by show (if p.s.val 1 = k then _ else _ : OpS × PS).1 = _; rw [if_pos hk], by omega⟩
    · exact ⟨k, d, 2, by show (if p.s.val 1 = k then _ else _ : OpS × PS).1 = _; rw [if_neg hk], by omega⟩
theorem next_give (t : Nat) (p : PS) (l : Nat) (h : l ≤ 1) : ((OpS.give l).next t p).1 = .give 0 := by
  match l, h with
  | 0, _ => rfl
  | 1, _ => rfl
theorem step_fin {w0 w w1 w2 w3 w4 : World} {B R : WB} {t pb xb : Nat} {p' : PS} {o' : OpS} {cs : Array Value} {T : TypeId} (HB : Below w.heap.size w w1) (F2 : Fx rTy false xb w1 w2) (H2 : RD w0 w2 R p'.V p'.x) (HP2 : w2.heap[pb]? = some (.cells cs T (0, 0))) (hT : rTy T = false)
    (H3 : WS w0 w3 B p'.V p'.s) (F3 : Fx wTy true pb w2.drew w3) (hal : Alike p'.s p'.x) (O3 : OpP w3 w0.heap.size t pb o') (OR3 : OpR w3 w0.heap.size t xb o') (B4 : Below w3.heap.size w3 w4) :
    Pr w0 w4 B R p'.V p'.s p'.x ∧ OpP w4 w0.heap.size t pb o' ∧ OpR w4 w0.heap.size t xb o' ∧ TwoR pb xb w w4 := by
  have hbd : Below w2.heap.size w2 w2.drew := (Below.refl _ _).drew
  exact ⟨⟨H3.keep B4, (rd_beside (H2.keep hbd) F3 HP2 hT H3.below).keep B4, hal⟩, O3.below B4, OR3.below B4, (((Below.twoR HB).trans F2.twoQ).trans ((Below.twoR hbd).trans F3.twoP)).trans (Below.twoR B4)⟩
def StepPost (w0 w : World) (B R : WB) (t pb xb : Nat) (p : PS) (o : OpS) (e : Ending) (w' : World) : Prop :=
  e = .returned (.bool true) ∧ Pr w0 w' B R (o.next t p).2.V (o.next t p).2.s (o.next t p).2.x ∧ OpP w' w0.heap.size t pb (o.next t p).1 ∧ OpR w' w0.heap.size t xb (o.next t p).1 ∧ TwoR pb xb w w'
section
variable {w0 w : World} {B R : WB} {t pb xb : Nat} {p : PS} {m : Nat}
theorem ostep_none (h : Pr w0 w B R p.V p.s p.x) : Calls Tryz.prog 23 #[.agg #[.pointer none, .pointer none, .pointer none, .pointer none], .agg #[.pointer (some ⟨B.wb, 0, none⟩), .pointer (some ⟨R.wb, 0, none⟩)]] w (StepPost w0 w B R t pb xb p .none) := by
  have hb1 := below_alloc w (.cells #[.pointer none, .pointer none, .pointer none, .pointer none] 63)
  have hb := hb1.trans ((below_alloc (w.alloc (.cells #[.pointer none, .pointer none, .pointer none, .pointer none] 63)) (.cells #[.pointer (some ⟨B.wb, 0, none⟩), .pointer (some ⟨R.wb, 0, none⟩)] 34)).mono hb1.size)
  have z : ((w.alloc (.cells #[.pointer none, .pointer none, .pointer none, .pointer none] 63)).alloc (.cells #[.pointer (some ⟨B.wb, 0, none⟩), .pointer (some ⟨R.wb, 0, none⟩)] 34)).heap[w.heap.size]? = some (.cells #[.pointer none, .pointer none, .pointer none, .pointer none] 63 (0, 0)) := heap_alloc_old (heap_alloc_new w _)
  have H := Lib.hid h; have HB := Lib.hid hb
  clear h hb1 hb
  go_enter Tryz.func23, Tryz.ntmps23
  go_upto_region 1 with (fail)
  change Code.wp _ _ _ _ ((w.alloc (.cells #[.pointer none, .pointer none, .pointer none, .pointer none] 63)).alloc (.cells #[.pointer (some ⟨B.wb, 0, none⟩), .pointer (some ⟨R.wb, 0, none⟩)] 34))
  generalize (w.alloc (.cells #[.pointer none, .pointer none, .pointer none, .pointer none] 63)).alloc (.cells #[.pointer (some ⟨B.wb, 0, none⟩), .pointer (some ⟨R.wb, 0, none⟩)] 34) = w1 at *
  have c2 := hcell z 2
  have c3 := hcell z 3
  clear z
  go_wp2
  go_ret
  exact ⟨rfl, H.out.keep HB.out, trivial, trivial, Below.twoR HB.out⟩
end
end Go.Proofs.YtddflihgadlafaaGreat
