/-
  A world with nothing ahead; the lock's words, and one thread's; layer 11's examples.
-/
import Derived.Test.YtddflihgadlafaaTickets
namespace Go.Proofs.Ytddflihgadlafaa
open Go.RowKit
set_option linter.unusedVariables false

theorem field_pair (x y : Option Addr) (W : World) : (Instr.field 34 (.agg #[.pointer x, .pointer y]) 0).run Try.prog W = .ok (.pointer x) W := by kernel_rfl
theorem begin11 (w : World) : Calls Try.prog 22 #[] w fun e w' => ∃ B, e = .returned (.pointer (some ⟨B.wb, 0, none⟩)) ∧ WS w w' B (v0 conf10) (CS.init [(2, 2)]) := by
  have hz := begin_zero w
  have hf := field_pair
  go_enter Try.func22, Try.ntmps22
  go_wp2_with (go_at_call 7; refine hz.mono ?_; rintro e w1 ⟨B, R, V, s, x, rfl, hp, hv, hfar, hok, hs⟩)
  go_ret
  have hs2 : s = CS.init [(2, 2)] := hs rfl rfl rfl (Int.le_refl _)
  have hws := hp.ws
  rw [hv, hs2] at hws
  exact ⟨B, rfl, hws⟩

/-- Made since w0; the lock's words a, b; thread q's cell v; the Holder; how many accesses; the last one's kind. -/
def TW (w0 w : World) (B : WB) (q : Nat) (a b v hd : Int) (c : Nat) (kd : Int) : Prop := ∃ V s, WS w0 w B V s ∧ s.val 0 = a ∧ s.val 1 = b ∧ V.tk.getD q 0 = v ∧ V.hd = hd ∧ s.cnt = c ∧ s.n = c + 1 ∧ s.kind = kd
theorem TW.keep {w0 w w' : World} {B : WB} {q : Nat} {a b v hd kd : Int} {c : Nat} (h : TW w0 w B q a b v hd c kd) (hb : Below w.heap.size w w') : TW w0 w' B q a b v hd c kd := by
  obtain ⟨V, s, h1, h2⟩ := h
  exact ⟨V, s, h1.keep hb, h2⟩
theorem TW.new {w0 w : World} {B : WB} (q : Nat) (hq : q < 64) (h : WS w0 w B (v0 conf10) (CS.init [(2, 2)])) : TW w0 w B q 0 0 0 (-1) 0 0 :=
  ⟨_, _, h, rfl, rfl, by show (List.replicate 64 (0 : Int)).getD q 0 = 0; rw [List.getD_eq_getElem?_getD, List.getElem?_replicate]; simp [hq], rfl, rfl, rfl, rfl⟩
theorem TW.below {w0 w : World} {B : WB} {q : Nat} {a b v hd kd : Int} {c : Nat} (h : TW w0 w B q a b v hd c kd) : Below w0.heap.size w0 w := by obtain ⟨V, s, h1, _⟩ := h; exact h1.below
section
variable {w0 w : World} {B : WB} {q : Nat} {a b v hd kd : Int} {c : Nat} (h : TW w0 w B q a b v hd c kd)
include h
theorem TW.c0 : w.cell? ⟨B.wb, 0, none⟩ = some (.pointer (some ⟨B.cb, 0, none⟩)) := by obtain ⟨V, s, h1, _⟩ := h; exact h1.c0
theorem TW.c72 : w.cell? ⟨B.wb, 72, none⟩ = some (.int .i64 hd) := by obtain ⟨V, s, h1, _, _, _, h2, _⟩ := h; rw [← h2]; exact h1.hcell'
theorem TW.cq (hq : q < 64) : w.cell? ⟨B.wb, 8 + q, none⟩ = some (.int .u64 v) := by obtain ⟨V, s, h1, _, _, h2, _⟩ := h; rw [← h2]; exact h1.cellb q hq
theorem TW.wfs : (0 ≤ a ∧ a < 18446744073709551616) ∧ (0 ≤ b ∧ b < 18446744073709551616) := by
  obtain ⟨V, s, h1, rfl, rfl, _⟩ := h
  exact ⟨wf_bd (h1.own.wf 0), wf_bd (h1.own.wf 1)⟩
theorem TW.peek0 : Calls Try.prog 17 #[.pointer (some ⟨B.cb, 0, none⟩), .int .u64 0] w fun e w' => e = .returned (.int .u64 a) ∧ w' = w := by
  obtain ⟨V, s, h1, rfl, _⟩ := h; exact h1.peek 0 (by decide)
theorem TW.peek1 : Calls Try.prog 17 #[.pointer (some ⟨B.cb, 0, none⟩), .int .u64 1] w fun e w' => e = .returned (.int .u64 b) ∧ w' = w := by
  obtain ⟨V, s, h1, _, rfl, _⟩ := h; exact h1.peek 1 (by decide)
theorem TW.steps : Calls Try.prog 8 #[.pointer (some ⟨B.wb, 0, none⟩)] w fun e w' => e = .returned (.int .i64 c) ∧ w' = w := by
  obtain ⟨V, s, h1, _, _, _, _, rfl, _⟩ := h; exact steps_any h1.wld
theorem TW.last : Calls Try.prog 20 #[.pointer (some ⟨B.cb, 0, none⟩)] w fun e w' => (∃ x y z, e = .returned (.agg #[.int .u8 kd, .int .u64 x, .int .u64 y, .int .u64 z])) ∧ TW w0 w' B q a b v hd c kd ∧ Below w.heap.size w w' := by
  have h0 := h
  obtain ⟨V, s, h1, _, _, _, _, _, _, rfl⟩ := h
  obtain ⟨⟨S, hS⟩, hB⟩ := h1.own
  exact (last_any w _ B.cb s S hS).mono fun e w' ⟨he, hb⟩ => ⟨⟨_, _, _, he⟩, h0.keep hb, hb⟩
theorem TW.waits (hq : q < 64) : Calls Try.prog 24 #[.pointer (some ⟨B.wb, 0, none⟩), .int .i64 q] w fun e w' => e = .returned (.bool (v != 0 && b != IntKind.u64.wrap (v - 1))) ∧ w' = w := by
  obtain ⟨V, s, h1, _, rfl, rfl, _⟩ := h; exact waits_any h1 q hq
theorem TW.room (hc : c < 10000) : ∃ V s, WS w0 w B V s ∧ s.room ∧ s.val 0 = a ∧ s.val 1 = b ∧ V.tk.getD q 0 = v ∧ V.hd = hd ∧ s.cnt = c ∧ s.n = c + 1 ∧ s.kind = kd := by
  obtain ⟨V, s, h1, h2, h3, h4, h5, h6, h7, h8⟩ := h
  exact ⟨V, s, h1, by unfold CS.room lim; omega, h2, h3, h4, h5, h6, h7, h8⟩
theorem TW.store (hc : c < 10000) (i y : Int) (hi : i = 0 ∨ i = 1) (hy : (Lit.int .u64 y).wf = true) : Calls Try.prog 61 #[.pointer (some ⟨B.cb, 0, none⟩), .int .u64 i, .int .u64 y] w fun e w' => (∃ o, e = .returned (.int .u64 o)) ∧ TW w0 w' B q (if i = 0 then y else a) (if i = 1 then y else b) v hd (c + 1) 2 := by
  obtain ⟨V, s, h1, hr, h2, h3, h4, h5, h6, h7, h8⟩ := h.room hc
  refine (h1.store hr i (by rcases hi with rfl | rfl <;> decide) y hy).mono fun e w' ⟨he, hw, hf⟩ => ⟨⟨_, he⟩, V, _, hw, ?_, ?_, h4, h5, by simp [CS.acc, h6], by simp [CS.acc, h7], rfl⟩
  · rcases hi with rfl | rfl
    · rw [if_pos rfl]; exact CS.acc_self _ _ _
    · rw [if_neg (by decide), CS.acc_val _ _ _ _ (by decide)]; exact h2
  · rcases hi with rfl | rfl
    · rw [if_neg (by decide), CS.acc_val _ _ _ _ (by decide)]; exact h3
    · rw [if_pos rfl]; exact CS.acc_self _ _ _
variable {p t : Nat} {k : Int} {d : Bool} (hlo : w0.heap.size ≤ p) (ht : t < 64) (hc : c < 10000)
include hlo ht hc
theorem TW.draw (hT : TakeAt w p t k d 1) (hne : t ≠ q) : Calls Try.prog 50 #[.pointer (some ⟨p, 0, none⟩), .pointer (some ⟨B.wb, 0, none⟩)] w fun e w' => e = .returned (.bool false) ∧ TW w0 w' B q (wu (a + 1)) b v hd (c + 1) 4 ∧ TakeAt w' p t a true 2 ∧ Fx wTy true p w w' := by
  obtain ⟨V, s, h1, hr, rfl, rfl, rfl, rfl, h6, h7, h8⟩ := h.room hc
  refine (tstep1 h1 hr hlo ht hT).mono fun e w' ⟨he, hw, hT', hf⟩ => ⟨he, ⟨_, _, hw, CS.acc_self _ _ _, CS.acc_val _ _ _ _ (by decide), ?_, rfl, by simp [CS.acc, h6], by simp [CS.acc, h7], rfl⟩, hT', hf⟩
  simp [hne]
theorem TW.drawq (hT : TakeAt w p t k d 1) (hq : t = q) : Calls Try.prog 50 #[.pointer (some ⟨p, 0, none⟩), .pointer (some ⟨B.wb, 0, none⟩)] w fun e w' => e = .returned (.bool false) ∧ TW w0 w' B q (wu (a + 1)) b (wu (a + 1)) hd (c + 1) 4 ∧ TakeAt w' p t a true 2 ∧ Fx wTy true p w w' := by
  obtain ⟨V, s, h1, hr, rfl, rfl, rfl, rfl, h6, h7, h8⟩ := h.room hc
  subst hq
  refine (tstep1 h1 hr hlo ht hT).mono fun e w' ⟨he, hw, hT', hf⟩ => ⟨he, ⟨_, _, hw, CS.acc_self _ _ _, CS.acc_val _ _ _ _ (by decide), ?_, rfl, by simp [CS.acc, h6], by simp [CS.acc, h7], rfl⟩, hT', hf⟩
  have := h1.tkl
  simp [this, ht]
omit hlo ht in
theorem TW.wait (hT : TakeAt w p t k d 2) (hk : b ≠ k) : Calls Try.prog 50 #[.pointer (some ⟨p, 0, none⟩), .pointer (some ⟨B.wb, 0, none⟩)] w fun e w' => e = .returned (.bool false) ∧ TW w0 w' B q a b v hd (c + 1) 1 ∧ TakeAt w' p t k d 2 ∧ Fx wTy true p w w' := by
  obtain ⟨V, s, h1, hr, rfl, rfl, rfl, rfl, h6, h7, h8⟩ := h.room hc
  exact (tstep2n h1 hr hT hk).mono fun e w' ⟨he, hw, hT', hf⟩ => ⟨he, ⟨_, _, hw, CS.acc_val _ _ _ _ (by decide), CS.acc_self _ _ _, rfl, rfl, by simp [CS.acc, h6], by simp [CS.acc, h7], rfl⟩, hT', hf⟩
theorem TW.servedq (hT : TakeAt w p t b d 2) (hq : t = q) : Calls Try.prog 50 #[.pointer (some ⟨p, 0, none⟩), .pointer (some ⟨B.wb, 0, none⟩)] w fun e w' => e = .returned (.bool true) ∧ TW w0 w' B q a b 0 q (c + 1) 1 ∧ TakeAt w' p t b d 0 ∧ Fx wTy true p w w' := by
  obtain ⟨V, s, h1, hr, rfl, rfl, rfl, rfl, h6, h7, h8⟩ := h.room hc
  subst hq
  refine (tstep2y h1 hr hlo ht hT).mono fun e w' ⟨he, hw, hT', hf⟩ => ⟨he, ⟨_, _, hw, CS.acc_val _ _ _ _ (by decide), CS.acc_self _ _ _, ?_, rfl, by simp [CS.acc, h6], by simp [CS.acc, h7], rfl⟩, hT', hf⟩
  have := h1.tkl
  simp [this, ht]
theorem TW.served (hT : TakeAt w p t b d 2) (hne : t ≠ q) : Calls Try.prog 50 #[.pointer (some ⟨p, 0, none⟩), .pointer (some ⟨B.wb, 0, none⟩)] w fun e w' => e = .returned (.bool true) ∧ TW w0 w' B q a b v t (c + 1) 1 ∧ TakeAt w' p t b d 0 ∧ Fx wTy true p w w' := by
  obtain ⟨V, s, h1, hr, rfl, rfl, rfl, rfl, h6, h7, h8⟩ := h.room hc
  refine (tstep2y h1 hr hlo ht hT).mono fun e w' ⟨he, hw, hT', hf⟩ => ⟨he, ⟨_, _, hw, CS.acc_val _ _ _ _ (by decide), CS.acc_self _ _ _, ?_, rfl, by simp [CS.acc, h6], by simp [CS.acc, h7], rfl⟩, hT', hf⟩
  simp [hne]
omit ht in
theorem TW.give (hG : GiveAt w p 1) : Calls Try.prog 52 #[.pointer (some ⟨p, 0, none⟩), .pointer (some ⟨B.wb, 0, none⟩)] w fun e w' => e = .returned (.bool true) ∧ TW w0 w' B q a (wu (b + 1)) v (-1) (c + 1) 4 ∧ Fx wTy true p w w' := by
  obtain ⟨V, s, h1, hr, rfl, rfl, rfl, rfl, h6, h7, h8⟩ := h.room hc
  exact (gstep h1 hr hlo hG).mono fun e w' ⟨he, hw, hT', hf⟩ => ⟨he, ⟨_, _, hw, CS.acc_val _ _ _ _ (by decide), CS.acc_self _ _ _, rfl, rfl, by simp [CS.acc, h6], by simp [CS.acc, h7], rfl⟩, hf⟩
end

set_option maxRecDepth 10000 in
set_option maxHeartbeats 2000000 in
theorem lives11 (w : World) : Calls Try.prog 21 #[] w fun e w' => e = .returned (.bool true) ∧ Below w.heap.size w w' := by
  have e1 : wu (0 + 1) = 1 := by decide
  have e2 : wu (1 + 1) = 2 := by decide
  go_enter Try.func21, Try.ntmps21
  go_upto_region 3 with (first
    | (go_at_call 22; refine (begin11 w).mono ?_; rintro e w1 ⟨B, rfl, h1⟩; have H1 := Lib.hid (TW.new 5 (by decide) h1); clear h1)
    | (go_at_call 49; refine (newtake_in 3 (by decide) _).mono ?_; rintro e w2 ⟨rfl, t2, b2⟩; have H2 := Lib.hid (H1.out.keep b2); have T2 := Lib.hid t2; clear t2 b2))
  have hl2 : w.heap.size ≤ w1.heap.size := H1.out.below.size
  have hw1 : ((2 : Int) != 0 && (0 : Int) != IntKind.u64.wrap (2 - 1)) = true := by decide
  have hw2 : ((2 : Int) != 0 && (1 : Int) != IntKind.u64.wrap (2 - 1)) = false := by decide
  go_upto_region 5 with (first
    | (go_at_call 50; ((with_reducible refine (H2.out.draw hl2 (by decide) (by decide) T2.out (by decide)).mono ?_); rw [e1]; rintro e w3 ⟨rfl, h3, t3, f3⟩; have H3 := Lib.hid h3; have T3 := Lib.hid t3; clear h3 t3 f3))
    | (go_at_call 50; ((with_reducible refine (H3.out.served hl2 (by decide) (by decide) T3.out (by decide)).mono ?_); rintro e w4 ⟨rfl, h4, t4, f4⟩; have c72 := h4.c72; have H4 := Lib.hid h4; clear h4 t4 f4 T3 T2))
    | (go_at_call 49; refine (newtake_in 5 (by decide) _).mono ?_; rintro e w5 ⟨rfl, t5, b5⟩; have H5 := Lib.hid (H4.out.keep b5); have T5 := Lib.hid t5; clear t5 b5 c72))
  have hl5 : w.heap.size ≤ w4.heap.size := H4.out.below.size
  clear H1 H2 H3 H4
  go_upto_region 6 with (first
    | (go_at_call 50; ((with_reducible refine (H5.out.drawq hl5 (by decide) (by decide) T5.out rfl).mono ?_); rw [e2]; rintro e w6 ⟨rfl, h6, t6, f6⟩; have hwt := h6.waits (by decide); rw [hw1] at hwt; have H6 := Lib.hid h6; have T6 := Lib.hid t6; clear h6 t6 f6 T5))
    | (go_at_call 24; refine hwt.mono ?_; rintro e w' ⟨rfl, hw⟩; obtain rfl := hw.symm; clear hwt)
    | (go_at_call 50; ((with_reducible refine (H6.out.wait (by decide) T6.out (by decide)).mono ?_); rintro e w7 ⟨rfl, h7, t7, f7⟩; have hwt := h7.waits (by decide); rw [hw1] at hwt; have H7 := Lib.hid h7; have T7 := Lib.hid t7; clear h7 t7 f7 T6)))
  clear H5 H6
  go_upto_region 7 with (first
    | (go_at_call 51; refine (newgive _).mono ?_; rintro e w8 ⟨rfl, g8, b8⟩; have H8 := Lib.hid (H7.out.keep b8); have T8 := Lib.hid (T7.out.below b8); have G8 := Lib.hid g8; have hl8 : w.heap.size ≤ w7.heap.size := H7.out.below.size; have hne8 : w4.heap.size ≠ w7.heap.size := (by have := T7.out.lt; omega); clear g8 b8)
    | (go_at_call 52; refine (H8.out.give hl8 (by decide) G8.out).mono ?_; rw [e1]; rintro e w9 ⟨rfl, h9, f9⟩; have c72 := h9.c72; have hwt := h9.waits (by decide); rw [hw2] at hwt; have H9 := Lib.hid h9; have T9 : Hid (TakeAt w9 w4.heap.size 5 1 true 2) := f9.cells _ _ _ _ T8.out rfl hne8; clear h9 f9)
    | (go_at_call 24; refine hwt.mono ?_; rintro e w' ⟨rfl, hw⟩; obtain rfl := hw.symm; clear hwt))
  clear c72 H7 T7 H8 T8 G8
  go_wp2_with (go_at_call 50; ((refine (H9.out.servedq hl5 (by decide) (by decide) T9.out rfl).mono ?_); rintro e w10 ⟨rfl, h10, t10, f10⟩; have c72 := h10.c72; have H10 := Lib.hid h10; clear h10 t10 f10))
  go_ret
  exact ⟨rfl, H10.out.below⟩
end Go.Proofs.Ytddflihgadlafaa
