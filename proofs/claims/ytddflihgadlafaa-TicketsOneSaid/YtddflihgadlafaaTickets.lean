/-
  Tickets: a Take, a Give, who waits.
-/
import Derived.Test.YtddflihgadlafaaBegin0
import Derived.Laws.EntriesVeiled
namespace Go.Proofs.Ytddflihgadlafaa
open Go.RowKit
set_option linter.unusedVariables false

/-- Of the old blocks only b, and such of some types, have turned. -/
structure Fx (K : TypeId → Bool) (mp : Bool) (b : Nat) (w w' : World) : Prop where
  size : w.heap.size ≤ w'.heap.size
  cells : ∀ (k : Nat) (cs : Array Value) (T : TypeId) (fr : Nat × Nat), w.heap[k]? = some (.cells cs T fr) → K T = false → k ≠ b → w'.heap[k]? = some (.cells cs T fr)
  map : mp = false → ∀ (k : Nat) (es : Array MapEntry) (cl : Nat), w.heap[k]? = some (.map es cl) → k ≠ b → w'.heap[k]? = some (.map es cl)
theorem Fr.fx {K : TypeId → Bool} {mp : Bool} {w w' : World} (h : Fr K mp w w') (b : Nat) : Fx K mp b w w' := ⟨h.size, fun k cs T fr h1 h2 _ => h.cells k cs T fr h1 h2, fun hm k es cl h1 _ => h.map hm k es cl h1⟩
theorem Fx.trans {K : TypeId → Bool} {mp : Bool} {b : Nat} {a c d : World} (h : Fx K mp b a c) (k : Fx K mp b c d) : Fx K mp b a d :=
  ⟨Nat.le_trans h.size k.size, fun i cs T fr hi hT hb => k.cells i cs T fr (h.cells i cs T fr hi hT hb) hT hb, fun hm i es cl hi hb => k.map hm i es cl (h.map hm i es cl hi hb) hb⟩
theorem set_fx (K : TypeId → Bool) (mp : Bool) (w : World) (b o : Nat) (v : Value) : Fx K mp b w (w.setCell ⟨b, o, none⟩ v) :=
  ⟨by simp [World.setCell], fun k cs T fr h _ hb => (Below.heap_setCell _ _ _ _ hb).trans h, fun _ k es cl h hb => (Below.heap_setCell _ _ _ _ hb).trans h⟩
theorem Fx.fr {K : TypeId → Bool} {mp : Bool} {b : Nat} {w w' : World} (h : Fx K mp b w w') {cs : Array Value} {T : TypeId} {fr : Nat × Nat} (hb : w.heap[b]? = some (.cells cs T fr)) : Fr (fun x => K x || x == T) mp w w' := by
  refine ⟨h.size, fun k cs2 T2 fr2 h2 hT => ?_, fun hm k es cl h2 => h.map hm k es cl h2 fun c => ?_⟩
  · simp only [Bool.or_eq_false_iff] at hT
    refine h.cells k cs2 T2 fr2 h2 hT.1 fun c => ?_
    subst c
    have := hb.symm.trans h2; simp only [Option.some.injEq, Obj.cells.injEq] at this
    have h3 := hT.2; rw [this.2.1] at h3; simp at h3
  · subst c; rw [hb] at h2; cases h2

def doV (b : Nat) : Nat → Value
  | 0 => .nilFunc
  | 1 => .func (.func 82) #[.pointer (some ⟨b, 0, none⟩)] #[]
  | _ => .func (.func 104) #[.pointer (some ⟨b, 0, none⟩)] #[]
/-- A Take, at its line. -/
def TakeAt (w : World) (b : Nat) (t k : Int) (d : Bool) (ln : Nat) : Prop := w.heap[b]? = some (.cells #[.int .i64 t, .int .u64 k, .bool d, doV b ln] 176 (0, 0))
theorem TakeAt.lt {w : World} {b : Nat} {t k : Int} {d : Bool} {ln : Nat} (h : TakeAt w b t k d ln) : b < w.heap.size := (Array.getElem?_eq_some_iff.1 h).1
theorem TakeAt.below {w w' : World} {b : Nat} {t k : Int} {d : Bool} {ln : Nat} (h : TakeAt w b t k d ln) (hb : Below w.heap.size w w') : TakeAt w' b t k d ln := (hb.block _ h.lt).trans h
def GiveAt (w : World) (b : Nat) (l : Int) : Prop := w.heap[b]? = some (.cells #[.int .i64 l] 178 (0, 0))
theorem GiveAt.lt {w : World} {b : Nat} {l : Int} (h : GiveAt w b l) : b < w.heap.size := (Array.getElem?_eq_some_iff.1 h).1

theorem thread_in (t : Nat) (h : t < 64) (w : World) : Calls Try.prog 54 #[.int .i64 t] w fun e w' => e = .returned (.bool true) ∧ w' = w := by
  have h1 : decide ((t : Int) < 64) = true := by simp; omega
  have h0 : decide ((0 : Int) ≤ (t : Int)) = true := by simp
  clear h
  go_enter Try.func54, Try.ntmps54
  go_wp2
  go_ret
  exact ⟨rfl, rfl⟩
theorem thread_out (t : Int) (h : t < 0 ∨ 63 < t) (w : World) : Calls Try.prog 54 #[.int .i64 t] w fun e w' => e = .returned (.bool false) ∧ w' = w := by
  rcases h with h | h
  · have h0 : decide (0 ≤ t) = false := by simp; omega
    clear h
    go_enter Try.func54, Try.ntmps54
    go_wp2
    go_ret
    exact ⟨rfl, rfl⟩
  · have h0 : decide (0 ≤ t) = true := by simp; omega
    have h1 : decide (t < 64) = false := by simp; omega
    clear h
    go_enter Try.func54, Try.ntmps54
    go_wp2
    go_ret
    exact ⟨rfl, rfl⟩
theorem mkfunc (fn : Fn) (first cap : Array Value) (w : World) : (Instr.makeFunc fn first cap).run Try.prog w = .ok (.func fn first cap) w := rfl
theorem newtake_in (t : Nat) (h : t < 64) (w : World) : Calls Try.prog 49 #[.int .i64 t] w fun e w' => e = .returned (.pointer (some ⟨w.heap.size, 0, none⟩)) ∧ TakeAt w' w.heap.size t 0 false 1 ∧ Below w.heap.size w w' := by
  have ht := thread_in t h
  have hmf := mkfunc
  clear h
  go_enter Try.func49, Try.ntmps49
  go_wp2_with (go_at_call 54; refine (ht _).mono ?_; rintro e w1 ⟨rfl, rfl⟩)
  go_ret
  exact ⟨rfl, heap_alloc_new w _, below_alloc' _ _⟩
theorem newtake_out (t : Int) (h : t < 0 ∨ 63 < t) (w : World) : Calls Try.prog 49 #[.int .i64 t] w fun e w' => e = .returned (.pointer (some ⟨w.heap.size, 0, none⟩)) ∧ TakeAt w' w.heap.size t 0 false 0 ∧ Below w.heap.size w w' := by
  have ht := thread_out t h
  clear h
  go_enter Try.func49, Try.ntmps49
  go_wp2_with (go_at_call 54; refine (ht _).mono ?_; rintro e w1 ⟨rfl, rfl⟩)
  go_ret
  exact ⟨rfl, heap_alloc_new w _, below_alloc' _ _⟩
theorem newgive (w : World) : Calls Try.prog 51 #[] w fun e w' => e = .returned (.pointer (some ⟨w.heap.size, 0, none⟩)) ∧ GiveAt w' w.heap.size 1 ∧ Below w.heap.size w w' := by
  go_enter Try.func51, Try.ntmps51
  go_wp2
  go_ret
  exact ⟨rfl, heap_alloc_new w _, below_alloc' _ _⟩
theorem over0 (w : World) (b : Nat) (c3 : w.cell? ⟨b, 3, none⟩ = some (.nilFunc)) : Calls Try.prog 83 #[.pointer (some ⟨b, 0, none⟩)] w fun e w' => e = .returned (.bool true) ∧ w' = w := by
  have hrun : Sem.run Try.prog (binOp BinOp.eql 131 (.nilFunc) Value.nilFunc) w = .ok (.bool true) w := by kernel_rfl
  go_enter Try.func83, Try.ntmps83
  go_wp2
  go_ret
  exact ⟨rfl, rfl⟩
theorem over1 (w : World) (b : Nat) (c3 : w.cell? ⟨b, 3, none⟩ = some (.func (.func 82) #[.pointer (some ⟨b, 0, none⟩)] #[])) : Calls Try.prog 83 #[.pointer (some ⟨b, 0, none⟩)] w fun e w' => e = .returned (.bool false) ∧ w' = w := by
  have hrun : Sem.run Try.prog (binOp BinOp.eql 131 (.func (.func 82) #[.pointer (some ⟨b, 0, none⟩)] #[]) Value.nilFunc) w = .ok (.bool false) w := by kernel_rfl
  go_enter Try.func83, Try.ntmps83
  go_wp2
  go_ret
  exact ⟨rfl, rfl⟩
theorem over2 (w : World) (b : Nat) (c3 : w.cell? ⟨b, 3, none⟩ = some (.func (.func 104) #[.pointer (some ⟨b, 0, none⟩)] #[])) : Calls Try.prog 83 #[.pointer (some ⟨b, 0, none⟩)] w fun e w' => e = .returned (.bool false) ∧ w' = w := by
  have hrun : Sem.run Try.prog (binOp BinOp.eql 131 (.func (.func 104) #[.pointer (some ⟨b, 0, none⟩)] #[]) Value.nilFunc) w = .ok (.bool false) w := by kernel_rfl
  go_enter Try.func83, Try.ntmps83
  go_wp2
  go_ret
  exact ⟨rfl, rfl⟩
theorem tover {w : World} {b : Nat} {t k : Int} {d : Bool} {ln : Nat} (h : TakeAt w b t k d ln) (o : Bool) (ho : o = decide (ln = 0)) : Calls Try.prog 83 #[.pointer (some ⟨b, 0, none⟩)] w fun e w' => e = .returned (.bool o) ∧ w' = w := by
  rcases ln with _ | _ | n
  · rw [show o = true from ho]; exact over0 w b (hcell h 3)
  · rw [show o = false from ho]; exact over1 w b (hcell h 3)
  · rw [show o = false by rw [ho]; simp]; exact over2 w b (hcell h 3)
theorem gover {w : World} {b : Nat} {l : Int} (h : GiveAt w b l) (o : Bool) (ho : (l == 0) = o) : Calls Try.prog 84 #[.pointer (some ⟨b, 0, none⟩)] w fun e w' => e = .returned (.bool o) ∧ w' = w := by
  have c3 : w.cell? ⟨b, 0, none⟩ = some (.int .i64 l) := hcell h 0
  clear h
  go_enter Try.func84, Try.ntmps84
  go_wp2
  go_ret
  exact ⟨rfl, rfl⟩
/-- The worlds' types, and a Take's. -/
theorem WS.cellb {w0 w : World} {B : WB} {V : WV} {s : CS} (h : WS w0 w B V s) (t : Nat) (ht : t < 64) : w.cell? ⟨B.wb, 8 + t, none⟩ = some (.int .u64 (V.tk.getD t 0)) := (h.cell (8 + t)).trans (val_tkat B V h.tkl t ht)
theorem WS.hcell' {w0 w : World} {B : WB} {V : WV} {s : CS} (h : WS w0 w B V s) : w.cell? ⟨B.wb, 72, none⟩ = some (.int .i64 V.hd) := (h.cell 72).trans (val_at B V h.tkl).2.2.2.2.2
theorem WS.frz {w0 w : World} {B : WB} {V : WV} {s : CS} (h : WS w0 w B V s) (o : Nat) : w.frozen? ⟨B.wb, o, none⟩ = false := hfrz h.blk o
theorem WS.fx {w0 w w' : World} {B : WB} {V : WV} {s : CS} {K : TypeId → Bool} {b : Nat} (h : WS w0 w B V s) (hf : Fx K false b w w') (hK : ∀ T, wTy T = true → K T = false) {cs : Array Value} {T : TypeId} {fr : Nat × Nat} (hb : w.heap[b]? = some (.cells cs T fr)) (hT : wTy T = false) (hB : Below w0.heap.size w0 w') : WS w0 w' B V s :=
  h.fr (hf.fr hb) (fun x hx => by simp only [Bool.or_eq_false_iff]; exact ⟨hK x hx, by cases hxT : (x == T); rfl; rw [beq_iff_eq] at hxT; subst hxT; rw [hx] at hT; cases hT⟩) hB
theorem set_take {w0 w : World} {B : WB} {V : WV} {s : CS} {b o : Nat} {cs : Array Value} {T : TypeId} (h : WS w0 w B V s) (hb : w.heap[b]? = some (.cells cs T (0, 0))) (hT : wTy T = false) (hlo : w0.heap.size ≤ b) (v : Value) : WS w0 (w.setCell ⟨b, o, none⟩ v) B V s :=
  h.fx (set_fx (fun _ => false) false w b o v) (fun _ _ => rfl) hb hT (keeps_below (setCell_keeps w b o v) h.below h.below.size fun k e => e ▸ hlo)

set_option maxRecDepth 10000 in
set_option maxHeartbeats 1000000 in
theorem draw_any {w0 w : World} {B : WB} {V : WV} {s : CS} {b t : Nat} {k : Int} {d : Bool} (h : WS w0 w B V s) (hr : s.room) (hT : TakeAt w b t k d 1) (hlo : w0.heap.size ≤ b) (ht : t < 64) :
    Calls Try.prog 82 #[.pointer (some ⟨b, 0, none⟩), .pointer (some ⟨B.wb, 0, none⟩)] w fun e w' => e = .returned (.tuple #[]) ∧ WS w0 w' B { V with tk := V.tk.set t (wu (s.val 0 + 1)) } (s.acc 4 0 (wu (s.val 0 + 1))) ∧ TakeAt w' b t (s.val 0) true 2 ∧ Fx wTy true b w w' := by
  have c0 := h.c0
  have hadd := h.add hr 0 (by decide) 1
  have hmf := mkfunc
  have H := Lib.hid h; have HT := Lib.hid hT
  clear h hr hT
  go_enter Try.func82, Try.ntmps82
  go_upto_region 1 with (go_at_call 10; refine hadd.mono ?_; rintro e w1 ⟨rfl, h1, f1⟩; have ht1 : TakeAt w1 b t k d 1 := f1.cells _ _ _ _ HT.out rfl; have y1 := hcell ht1 1; have y2 := hcell ht1 2; have yf := hfrz ht1; have H1 := Lib.hid h1; have F1 := Lib.hid f1; have HT1 := Lib.hid ht1; clear h1 f1 ht1 hadd c0)
  have hq2 := setCell_same (setCell_same HT1.out 1 (.int .u64 (s.val 0))) 2 (.bool true)
  have hq2 : ((w1.setCell ⟨b, 1, none⟩ (.int .u64 (s.val 0))).setCell ⟨b, 2, none⟩ (.bool true)).heap[b]? = some (.cells #[.int .i64 t, .int .u64 (s.val 0), .bool true, doV b 1] 176 (0, 0)) := hq2
  have h2 := set_take (o := 2) (set_take (o := 1) H1.out HT1.out rfl hlo (.int .u64 (s.val 0))) (setCell_same HT1.out 1 (.int .u64 (s.val 0))) rfl hlo (.bool true)
  have f2 : Fx wTy true b w ((w1.setCell ⟨b, 1, none⟩ (.int .u64 (s.val 0))).setCell ⟨b, 2, none⟩ (.bool true)) := ((F1.out.fx b).trans (set_fx _ _ _ _ _ _)).trans (set_fx _ _ _ _ _ _)
  clear y1 y2 yf HT1 H1 F1
  generalize (w1.setCell ⟨b, 1, none⟩ (.int .u64 (s.val 0))).setCell ⟨b, 2, none⟩ (.bool true) = W2 at *
  obtain ⟨nv, hnv⟩ : ∃ nv, nv = wu (s.val 0 + 1) := ⟨_, rfl⟩
  have e1 : IntKind.u64.wrap (s.val 0 + 1) = nv := hnv.symm
  rw [← hnv] at h2
  have HNV := Lib.hid hnv
  clear hnv
  have x0 := fun st : ExtW W2 => st.cell (hcell hq2 0)
  have x1 := fun st : ExtW W2 => st.cell (hcell hq2 1)
  have ht' : (t : Int) < 64 := by omega
  have H2 := Lib.hid h2; have HQ2 := Lib.hid hq2; have F2 := Lib.hid f2
  clear h2 hq2 f2
  refine wp_region_ext_tail 13 (by kernel_rfl) (by kernel_rfl) ?_
  simp only [List.take_succ_cons, List.take_zero, List.drop_succ_cons, List.drop_zero]
  repeat (go_big_quiet_step (fail))
  refine wpQuiet_nil ?_
  rintro W3 ⟨⟨W4, hW⟩, rfl⟩
  clear x0 x1
  have h3 := H2.out.keep hW
  have hq3 := (hW.block _ (Array.getElem?_eq_some_iff.1 HQ2.out).1).trans HQ2.out
  have c1 := h3.cellb t ht
  have cf := h3.frz (8 + t)
  obtain ⟨h4, f4⟩ := h3.set (8 + t) (.int .u64 nv) { V with tk := V.tk.set t nv } (val_tk B V h3.tkl t ht nv) rfl rfl (by simp; exact h3.tkl)
  have F4 : Hid (Fx wTy true b w (W3.setCell ⟨B.wb, 8 + t, none⟩ (.int .u64 nv))) := (F2.out.trans ((below_fr hW wTy true).fx b)).trans (f4.fx b)
  have hq4 := f4.cells _ _ _ _ hq3 rfl
  have H4 := Lib.hid h4; have HQ4 := Lib.hid hq4
  clear h3 hq3 h4 f4 hq4 hW
  go_upto_region 2 with (fail)
  generalize W3.setCell ⟨B.wb, 8 + t, none⟩ (.int .u64 nv) = W5 at *
  have y3 := hcell HQ4.out 3
  have yf := hfrz HQ4.out 3
  go_wp2
  go_end0
  rw [← show nv = wu (s.val 0 + 1) from HNV.out]
  exact ⟨rfl, set_take (o := 3) H4.out HQ4.out rfl hlo _, setCell_same HQ4.out 3 _, F4.out.trans (set_fx _ _ _ _ _ _)⟩

theorem look_mid {w0 w w2 : World} {B : WB} {V : WV} {s2 : CS} {b t : Nat} {d : Bool} {k : Int} (H2 : WS w0 w2 B V s2) (HT : TakeAt w2 b t k d 2) (ht : t < 64) (F2 : Fr wTy true w.drew w2) :
    WS w0 ((w2.setCell ⟨B.wb, 8 + t, none⟩ (.int .u64 0)).setCell ⟨B.wb, 72, none⟩ (.int .i64 t)).drew B { V with tk := V.tk.set t 0, hd := t } s2 ∧ TakeAt ((w2.setCell ⟨B.wb, 8 + t, none⟩ (.int .u64 0)).setCell ⟨B.wb, 72, none⟩ (.int .i64 t)).drew b t k d 2 ∧
    Fx wTy true b w ((w2.setCell ⟨B.wb, 8 + t, none⟩ (.int .u64 0)).setCell ⟨B.wb, 72, none⟩ (.int .i64 t)).drew := by
  obtain ⟨h4, f4⟩ := H2.set (8 + t) (.int .u64 0) { V with tk := V.tk.set t 0 } (val_tk B V H2.tkl t ht 0) rfl rfl (by simp; exact H2.tkl)
  obtain ⟨h5, f5⟩ := h4.set 72 (.int .i64 t) { V with tk := V.tk.set t 0, hd := t } (val_hd B _ h4.tkl t) rfl rfl (by simp; exact H2.tkl)
  have f6 := F2.trans (f4.trans f5)
  exact ⟨h5.keep (Below.refl _ _).drew, (f4.trans f5).cells _ _ _ _ HT rfl, ⟨f6.size, fun k cs T fr h1 h2 _ => f6.cells k cs T fr h1 h2, fun h => by cases h⟩⟩
set_option maxRecDepth 10000 in
set_option maxHeartbeats 1000000 in
theorem look_yes {w0 w : World} {B : WB} {V : WV} {s : CS} {b t : Nat} {d : Bool} (h : WS w0 w B V s) (hr : s.room) (hT : TakeAt w b t (s.val 1) d 2) (hlo : w0.heap.size ≤ b) (ht : t < 64) :
    Calls Try.prog 104 #[.pointer (some ⟨b, 0, none⟩), .pointer (some ⟨B.wb, 0, none⟩)] w fun e w' => e = .returned (.tuple #[]) ∧ WS w0 w' B { V with tk := V.tk.set t 0, hd := t } (s.acc 1 1 (s.val 1)) ∧ TakeAt w' b t (s.val 1) d 0 ∧ Fx wTy true b w w' := by
  have c0 := h.c0
  have x0 := fun st : ExtW w => st.cell c0
  have hld : ∀ W, Below w.heap.size w W → Calls Try.prog 85 #[.pointer (some ⟨B.cb, 0, none⟩), .int .u64 1] W fun e w' => e = .returned (.int .u64 (s.val 1)) ∧ WS w0 w' B V (s.acc 1 1 (s.val 1)) ∧ Fr wTy true W w' := fun W hW => (h.keep hW).load hr 1 (by decide)
  have H := Lib.hid h; have HT := Lib.hid hT; have HL := Lib.hid hld
  clear h hr hT hld c0
  have hd0 := H.out.keep (Below.refl w.heap.size w).drew
  have y0 : w.drew.cell? ⟨B.wb, 0, none⟩ = some (.pointer (some ⟨B.cb, 0, none⟩)) := hd0.c0
  have y1 : w.drew.cell? ⟨b, 1, none⟩ = some (.int .u64 (s.val 1)) := hcell (w := w.drew) (HT.out) 1
  have hlw := HL.out w.drew (Below.refl w.heap.size w).drew
  clear x0 hd0
  go_enter Try.func104, Try.ntmps104
  go_wp2_with fail
  go_region_with (go_at_call 85; refine hlw.mono ?_; rintro e w2 ⟨rfl, h2, f2⟩; have HT2 : Hid (TakeAt w2 b t (s.val 1) d 2) := f2.cells _ _ _ _ HT.out rfl; have z1 := hcell HT2.out 1; have H2 := Lib.hid h2; have F2 := Lib.hid f2; clear h2 f2 y0 y1 hlw)
  all_goals (have k0 := hcell HT2.out 0; have k3 := hcell HT2.out 3; have kf := hfrz HT2.out; have g8 := H2.out.cellb t ht; have g72 := H2.out.hcell'; have gf := H2.out.frz; have ht' : (t : Int) < 64 := (by omega); clear z1)
  all_goals go_wp2_with fail
  all_goals (have k0 : w2.drew.cell? ⟨b, 0, none⟩ = some (.int .i64 t) := hcell HT2.out 0; have k3 : w2.drew.cell? ⟨b, 3, none⟩ = some (doV b 2) := hcell HT2.out 3; have kf : ∀ o, w2.drew.frozen? ⟨b, o, none⟩ = false := hfrz HT2.out; have g8 : w2.drew.cell? ⟨B.wb, 8 + t, none⟩ = some (.int .u64 (V.tk.getD t 0)) := H2.out.cellb t ht; have g72 : w2.drew.cell? ⟨B.wb, 72, none⟩ = some (.int .i64 V.hd) := H2.out.hcell'; have gf : ∀ o, w2.drew.frozen? ⟨B.wb, o, none⟩ = false := H2.out.frz)
  all_goals (go_region_with (fail))
  all_goals (obtain ⟨h5, t5, f5⟩ := look_mid H2.out HT2.out ht F2.out)
  all_goals (have H5 := Lib.hid h5; have T5 := Lib.hid t5; have F5 := Lib.hid f5)
  all_goals (clear h5 t5 f5 H2 HT2 F2 k0 k3 kf g8 g72 gf)
  all_goals (generalize ((w2.setCell ⟨B.wb, 8 + t, none⟩ (.int .u64 0)).setCell ⟨B.wb, 72, none⟩ (.int .i64 t)).drew = W5 at *)
  all_goals (have y3 := hcell T5.out 3; have yf := hfrz T5.out 3)
  all_goals go_wp2
  all_goals go_end0
  all_goals exact ⟨rfl, set_take (o := 3) H5.out T5.out rfl hlo _, setCell_same T5.out 3 _, F5.out.trans (set_fx _ _ _ _ _ _)⟩
set_option maxRecDepth 10000 in
set_option maxHeartbeats 1000000 in
theorem look_no {w0 w : World} {B : WB} {V : WV} {s : CS} {b t : Nat} {d : Bool} {k : Int} (h : WS w0 w B V s) (hr : s.room) (hT : TakeAt w b t k d 2) (hk : s.val 1 ≠ k) :
    Calls Try.prog 104 #[.pointer (some ⟨b, 0, none⟩), .pointer (some ⟨B.wb, 0, none⟩)] w fun e w' => e = .returned (.tuple #[]) ∧ WS w0 w' B V (s.acc 1 1 (s.val 1)) ∧ TakeAt w' b t k d 2 ∧ Fx wTy true b w w' := by
  have hbk : (s.val 1 == k) = false := beq_eq_false_iff_ne.2 hk
  have hld : ∀ W, Below w.heap.size w W → Calls Try.prog 85 #[.pointer (some ⟨B.cb, 0, none⟩), .int .u64 1] W fun e w' => e = .returned (.int .u64 (s.val 1)) ∧ WS w0 w' B V (s.acc 1 1 (s.val 1)) ∧ Fr wTy true W w' := fun W hW => (h.keep hW).load hr 1 (by decide)
  have H := Lib.hid h; have HT := Lib.hid hT; have HL := Lib.hid hld
  clear h hr hT hld hk
  have hd0 := H.out.keep (Below.refl w.heap.size w).drew
  have y0 : w.drew.cell? ⟨B.wb, 0, none⟩ = some (.pointer (some ⟨B.cb, 0, none⟩)) := hd0.c0
  have y1 : w.drew.cell? ⟨b, 1, none⟩ = some (.int .u64 k) := hcell (w := w.drew) (HT.out) 1
  have hlw := HL.out w.drew (Below.refl w.heap.size w).drew
  clear hd0
  go_enter Try.func104, Try.ntmps104
  go_wp2_with fail
  go_region_with (go_at_call 85; refine hlw.mono ?_; rintro e w2 ⟨rfl, h2, f2⟩; have HT2 : Hid (TakeAt w2 b t k d 2) := f2.cells _ _ _ _ HT.out rfl; have z1 := hcell HT2.out 1; have H2 := Lib.hid h2; have F2 := Lib.hid f2; clear h2 f2 y0 y1 hlw)
  all_goals (clear z1)
  all_goals go_wp2
  all_goals go_end0
  all_goals exact ⟨rfl, H2.out, HT2.out, ⟨F2.out.size, fun k cs T fr h1 h2 _ => F2.out.cells k cs T fr h1 h2, fun h => by cases h⟩⟩

/-- A step of a Take. -/
theorem tstep0 {w : World} {b : Nat} {t k : Int} {d : Bool} (h : TakeAt w b t k d 0) (v : Value) (hv : v = .pointer none ∨ ∃ a, v = .pointer (some a)) : Calls Try.prog 50 #[.pointer (some ⟨b, 0, none⟩), v] w fun e w' => e = .returned (.bool true) ∧ w' = w := by
  have ho := tover h true rfl
  clear h
  rcases hv with rfl | ⟨a, rfl⟩
  all_goals
    go_enter Try.func50, Try.ntmps50
    go_wp2_with (go_at_call 83; refine ho.mono ?_; rintro e w1 ⟨rfl, hw⟩; obtain rfl := hw.symm)
    go_ret
    exact ⟨rfl, rfl⟩
theorem tstep_nil {w : World} {b : Nat} {t k : Int} {d : Bool} {ln : Nat} (h : TakeAt w b t k d (ln + 1)) : Calls Try.prog 50 #[.pointer (some ⟨b, 0, none⟩), .pointer none] w fun e w' => e = .returned (.bool false) ∧ w' = w := by
  have ho := tover h false (by simp)
  clear h
  go_enter Try.func50, Try.ntmps50
  go_wp2_with (go_at_call 83; refine ho.mono ?_; rintro e w1 ⟨rfl, hw⟩; obtain rfl := hw.symm)
  go_ret
  exact ⟨rfl, rfl⟩
section
variable {w0 w : World} {B : WB} {V : WV} {s : CS} {b t : Nat} {d : Bool} {k : Int} (h : WS w0 w B V s) (hr : s.room) (hlo : w0.heap.size ≤ b) (ht : t < 64)
include h hr hlo ht
theorem tstep1 (hT : TakeAt w b t k d 1) : Calls Try.prog 50 #[.pointer (some ⟨b, 0, none⟩), .pointer (some ⟨B.wb, 0, none⟩)] w fun e w' => e = .returned (.bool false) ∧ WS w0 w' B { V with tk := V.tk.set t (wu (s.val 0 + 1)) } (s.acc 4 0 (wu (s.val 0 + 1))) ∧ TakeAt w' b t (s.val 0) true 2 ∧ Fx wTy true b w w' := by
  have ho := tover hT false rfl
  have hd := draw_any h hr hT hlo ht
  have c3 : w.cell? ⟨b, 3, none⟩ = some (.func (.func 82) #[.pointer (some ⟨b, 0, none⟩)] #[]) := hcell hT 3
  clear h hr hT
  go_enter Try.func50, Try.ntmps50
  go_wp2_with (first
    | (go_at_call 83; refine ho.mono ?_; rintro e w1 ⟨rfl, hw⟩; obtain rfl := hw.symm; clear ho)
    | (go_at_call 82; refine hd.mono ?_; rintro e w2 ⟨rfl, h2, t2, f2⟩; have ho2 := tover t2 false rfl; have H2 := Lib.hid h2; have T2 := Lib.hid t2; have F2 := Lib.hid f2; clear h2 t2 f2 hd c3)
    | (go_at_call 83; refine ho2.mono ?_; rintro e w1 ⟨rfl, hw⟩; obtain rfl := hw.symm; clear ho2))
  go_ret
  exact ⟨rfl, H2.out, T2.out, F2.out⟩
theorem tstep2y (hT : TakeAt w b t (s.val 1) d 2) : Calls Try.prog 50 #[.pointer (some ⟨b, 0, none⟩), .pointer (some ⟨B.wb, 0, none⟩)] w fun e w' => e = .returned (.bool true) ∧ WS w0 w' B { V with tk := V.tk.set t 0, hd := t } (s.acc 1 1 (s.val 1)) ∧ TakeAt w' b t (s.val 1) d 0 ∧ Fx wTy true b w w' := by
  have ho := tover hT false rfl
  have hd := look_yes h hr hT hlo ht
  have c3 : w.cell? ⟨b, 3, none⟩ = some (.func (.func 104) #[.pointer (some ⟨b, 0, none⟩)] #[]) := hcell hT 3
  clear h hr hT
  go_enter Try.func50, Try.ntmps50
  go_wp2_with (first
    | (go_at_call 83; refine ho.mono ?_; rintro e w1 ⟨rfl, hw⟩; obtain rfl := hw.symm; clear ho)
    | (go_at_call 104; refine hd.mono ?_; rintro e w2 ⟨rfl, h2, t2, f2⟩; have ho2 := tover t2 true rfl; have H2 := Lib.hid h2; have T2 := Lib.hid t2; have F2 := Lib.hid f2; clear h2 t2 f2 hd c3)
    | (go_at_call 83; refine ho2.mono ?_; rintro e w1 ⟨rfl, hw⟩; obtain rfl := hw.symm; clear ho2))
  go_ret
  exact ⟨rfl, H2.out, T2.out, F2.out⟩
omit hlo ht in
theorem tstep2n (hT : TakeAt w b t k d 2) (hk : s.val 1 ≠ k) : Calls Try.prog 50 #[.pointer (some ⟨b, 0, none⟩), .pointer (some ⟨B.wb, 0, none⟩)] w fun e w' => e = .returned (.bool false) ∧ WS w0 w' B V (s.acc 1 1 (s.val 1)) ∧ TakeAt w' b t k d 2 ∧ Fx wTy true b w w' := by
  have ho := tover hT false rfl
  have hd := look_no h hr hT hk
  have c3 : w.cell? ⟨b, 3, none⟩ = some (.func (.func 104) #[.pointer (some ⟨b, 0, none⟩)] #[]) := hcell hT 3
  clear h hr hT hk
  go_enter Try.func50, Try.ntmps50
  go_wp2_with (first
    | (go_at_call 83; refine ho.mono ?_; rintro e w1 ⟨rfl, hw⟩; obtain rfl := hw.symm; clear ho)
    | (go_at_call 104; refine hd.mono ?_; rintro e w2 ⟨rfl, h2, t2, f2⟩; have ho2 := tover t2 false rfl; have H2 := Lib.hid h2; have T2 := Lib.hid t2; have F2 := Lib.hid f2; clear h2 t2 f2 hd c3)
    | (go_at_call 83; refine ho2.mono ?_; rintro e w1 ⟨rfl, hw⟩; obtain rfl := hw.symm; clear ho2))
  go_ret
  exact ⟨rfl, H2.out, T2.out, F2.out⟩
omit ht in
/-- A Give's only step. -/
theorem gstep (hG : GiveAt w b 1) : Calls Try.prog 52 #[.pointer (some ⟨b, 0, none⟩), .pointer (some ⟨B.wb, 0, none⟩)] w fun e w' => e = .returned (.bool true) ∧ WS w0 w' B { V with hd := -1 } (s.acc 4 1 (wu (s.val 1 + 1))) ∧ GiveAt w' b 0 ∧ Fx wTy true b w w' := by
  have ho := gover hG false rfl
  have c0 := hcell hG 0
  have cf := hfrz hG
  have hset := set_take (o := 0) h hG rfl hlo (.int .i64 0)
  have hq := setCell_same hG 0 (.int .i64 0)
  have hq : GiveAt (w.setCell ⟨b, 0, none⟩ (.int .i64 0)) b 0 := hq
  have H := Lib.hid hset; have HQ := Lib.hid hq
  have hadd := hset.add hr 1 (by decide) 1
  have g0 := hset.c0
  clear h hr hG hset hq
  go_enter Try.func52, Try.ntmps52
  go_upto_region 3 with (go_at_call 84; refine ho.mono ?_; rintro e w1 ⟨rfl, hw⟩; obtain rfl := hw.symm; clear ho)
  have F1 : Hid (Fx wTy true b w (w.setCell ⟨b, 0, none⟩ (.int .i64 0))) := set_fx _ _ _ _ _ _
  clear c0 cf
  generalize w.setCell ⟨b, 0, none⟩ (.int .i64 0) = W1 at *
  go_upto_region 4 with (go_at_call 10; refine hadd.mono ?_; rintro e w2 ⟨rfl, h2, f2⟩; have g72 := h2.hcell'; have gf := h2.frz 72; have H2 := Lib.hid h2; have F2 := Lib.hid f2; clear h2 f2 hadd g0)
  obtain ⟨h3, f3⟩ := H2.out.set 72 (.int .i64 (-1)) { V with hd := -1 } (val_hd B _ H2.out.tkl (-1)) rfl rfl H2.out.tkl
  have hq3 : GiveAt (w2.setCell ⟨B.wb, 72, none⟩ (.int .i64 (-1))) b 0 := (F2.out.trans f3).cells _ _ _ _ HQ.out rfl
  have ho2 := gover hq3 true rfl
  have H3 := Lib.hid h3; have HQ3 := Lib.hid hq3; have F3 := Lib.hid (F1.out.trans ((F2.out.trans f3).fx b))
  clear h3 f3 hq3 F1 F2 H2 HQ H
  go_upto_region 5 with (fail)
  generalize w2.setCell ⟨B.wb, 72, none⟩ (.int .i64 (-1)) = W3 at *
  go_wp2_with (go_at_call 84; refine ho2.mono ?_; rintro e w1 ⟨rfl, hw⟩; obtain rfl := hw.symm; clear ho2)
  go_ret
  exact ⟨rfl, H3.out, HQ3.out, F3.out⟩
end
/-- Who waits. -/
theorem waits_any {w0 w : World} {B : WB} {V : WV} {s : CS} (h : WS w0 w B V s) (t : Nat) (ht : t < 64) : Calls Try.prog 24 #[.pointer (some ⟨B.wb, 0, none⟩), .int .i64 t] w fun e w' =>
    e = .returned (.bool (V.tk.getD t 0 != 0 && s.val 1 != IntKind.u64.wrap (V.tk.getD t 0 - 1))) ∧ w' = w := by
  have hp := h.peek 1 (by decide)
  have c0 := h.c0
  have c8 := h.cellb t ht
  have hth := thread_in t ht
  have ht' : (t : Int) < 64 := by omega
  generalize V.tk.getD t 0 = v at *
  clear h
  cases hv : (v != 0)
  · go_enter Try.func24, Try.ntmps24
    go_wp2_with (first
      | (go_at_call 54; refine (hth _).mono ?_; rintro e w1 ⟨rfl, hw⟩; obtain rfl := hw.symm)
      | (go_at_call 17; refine hp.mono ?_; rintro e w1 ⟨rfl, hw⟩; obtain rfl := hw.symm))
    go_ret
    exact ⟨rfl, rfl⟩
  · go_enter Try.func24, Try.ntmps24
    go_wp2_with (first
      | (go_at_call 54; refine (hth _).mono ?_; rintro e w1 ⟨rfl, hw⟩; obtain rfl := hw.symm)
      | (go_at_call 17; refine hp.mono ?_; rintro e w1 ⟨rfl, hw⟩; obtain rfl := hw.symm))
    go_ret
    exact ⟨by simp, rfl⟩
end Go.Proofs.Ytddflihgadlafaa
