/-
  A new world, at hand; layer 10's examples.
-/
import Derived.Test.YtdabcnjjbfmkaaaWorldDo
namespace Go.Proofs.Ytdabcnjjbfmkaaa
open Go.RowKit Go.Maps
set_option linter.unusedVariables false

theorem bnext {w a b : World} (h : Below w.heap.size w a) (k : Below a.heap.size a b) : Below w.heap.size w b := h.trans (k.mono h.size)
/-- The cells of a new world. -/
structure New1 (bits : Int) (s : CS) : Prop where
  v2 : s.val 2 = tword bits 0
  vo : ∀ a, a ≠ 2 → s.val a = 0
  cnt : s.cnt = 0
  n : s.n = 1
theorem new1 (bits : Int) : New1 bits (CS.init [(2, tword bits 0)]) := ⟨upd_same (fun _ => 0) 2 (tword bits 0), fun a ha => upd_other (fun _ => 0) ha (tword bits 0), rfl, rfl⟩
theorem New1.room {bits : Int} {s : CS} (h : New1 bits s) : s.room := by unfold CS.room lim; rw [h.cnt, h.n]; omega
theorem CS.acc_val {s : CS} (k a i x : Int) (hx : x ≠ a) : (s.acc k a i).val x = s.val x := upd_other _ hx _
theorem CS.acc_self {s : CS} (k a i : Int) : (s.acc k a i).val a = i := upd_same _ _ _

theorem Own.base {w0 w w' : World} {b : Nat} {s : CS} (h : Own w w' b s) (hB : Below w0.heap.size w0 w) : Own w0 w' b s := by
  obtain ⟨⟨S, hS⟩, h2⟩ := h
  exact Own.new hB hS h2
theorem new_wld {w0 w : World} (hB : Below w0.heap.size w0 w) (c : Conf) (hc : c.ok = true) : Calls Try.prog 40 #[.agg #[.int .i64 c.bits, .int .i64 c.budget, .int .i64 c.tries, .int .i64 c.quantum, .int .i64 c.way]] w fun e w' => ∃ wb cb s,
    e = .returned (.tuple #[.pointer (some ⟨wb, 0, none⟩), .int .i64 0]) ∧ Wld w0 w' wb cb c s ∧ New1 c.bits s ∧ Below w.heap.size w w' :=
  (wnew_ok c hc w).mono fun e w' ⟨wb, cb, ib, nb, he, hb, _, ho, _⟩ => ⟨wb, cb, _, he, ⟨ho.base hB, ib, nb, tk0, -1, hb⟩, new1 _, ho.below⟩

def conf10 : Conf := ⟨2, 8, 3, 1, 16⟩
def conf00 : Conf := ⟨0, 8, 3, 1, 16⟩
set_option maxRecDepth 10000 in
set_option maxHeartbeats 400000 in
theorem lives10 (w : World) : Calls Try.prog 8 #[] w fun e w' => e = .returned (.bool true) ∧ Below w.heap.size w w' := by
  have hg : (asNow (tword 2 0) == 0 && pmay 2 8 (asOld (tword 2 0))) = true := by decide
  have e1 : eTick 0 = 1 := by decide
  have e2 : tword 2 0 = 2 := by decide
  have HG := Lib.hid hg; have E1 := Lib.hid e1; have E2 := Lib.hid e2
  clear hg e1 e2
  have hn1 : Calls Try.prog 40 #[.agg #[.int .i64 2, .int .i64 8, .int .i64 3, .int .i64 1, .int .i64 16]] w fun e w' => ∃ wb cb s, e = .returned (.tuple #[.pointer (some ⟨wb, 0, none⟩), .int .i64 0]) ∧ Wld w w' wb cb conf10 s ∧ New1 2 s ∧ Below w.heap.size w w' := new_wld (Below.refl w.heap.size w) conf10 (by decide)
  have hn2 : ∀ w, Calls Try.prog 40 #[.agg #[.int .i64 0, .int .i64 8, .int .i64 3, .int .i64 1, .int .i64 16]] w fun e w' => e = .returned (.tuple #[.pointer none, .int .i64 1]) ∧ Below w.heap.size w w' := wnew_bad conf00 (by decide)
  go_enter Try.func8, Try.ntmps8
  go_wp2_with (first
    | (go_at_call 40; with_reducible refine hn1.mono ?_; rintro e w1 ⟨wb, cb, s, rfl, h1, n1, b1⟩; clear hn1)
    | (go_at_call 40; with_reducible refine (hn2 _).mono ?_; rintro e w2 ⟨rfl, b2⟩; have h2 := h1.keep b2; obtain ⟨c0, -, -⟩ := h2.cell; clear h1)
    | (go_at_call 19; refine (peek_own h2.own 2 (by decide)).mono ?_; rw [n1.v2, show tword 2 0 = 2 from E2.out]; rintro e w3 ⟨rfl, rfl⟩)
    | (go_at_call 10; refine (steps_any h2).mono ?_; rw [n1.cnt]; rintro e w3 ⟨rfl, rfl⟩)
    | (go_at_call 17; refine (grows_any h2 (by decide)).mono ?_; rw [n1.v2, show (asNow (tword 2 0) == 0 && pmay conf10.bits conf10.budget (asOld (tword 2 0))) = true from HG.out]; rintro e w4 ⟨rfl, b4⟩; have h4 := h2.keep b4; clear h2)
    | (go_at_call 21; refine (tick_any h4 n1.room).mono ?_; rw [n1.vo 8 (by decide), E1.out]; rintro e w5 ⟨rfl, h5, -⟩; clear c0; obtain ⟨c0, -, -⟩ := h5.cell)
    | (go_at_call 19; refine (peek_own h5.own 8 (by decide)).mono ?_; rw [CS.acc_self]; rintro e w3 ⟨rfl, rfl⟩)
    | (go_at_call 10; refine (steps_any h5).mono ?_; rintro e w3 ⟨rfl, rfl⟩))
  go_ret
  exact ⟨by simp [CS.acc, n1.cnt], h5.own.below⟩

theorem box5r {w w' : World} {q T : Nat} {c0 c1 c2 c3 c4 : Value} (hq : w.heap[q]? = some (.cells #[c0, c1, c2, c3, c4] T (0, 0))) (h : Rest w w') (h1 : (T == 132) = false) (h2 : (T == 206) = false) :
    w'.heap[q]? = some (.cells #[c0, c1, c2, c3, c4] T (0, 0)) ∧ w'.cell? ⟨q, 0, none⟩ = some c0 ∧ w'.cell? ⟨q, 1, none⟩ = some c1 ∧ w'.cell? ⟨q, 2, none⟩ = some c2 ∧ w'.cell? ⟨q, 3, none⟩ = some c3 ∧ w'.cell? ⟨q, 4, none⟩ = some c4 :=
  box5 (h q _ _ _ hq h1 h2) (Below.refl _ _)
theorem room_acc {s : CS} {k a i : Int} (m : Nat) (hs : s.n ≤ m ∧ s.cnt ≤ m) : (s.acc k a i).n ≤ m + 1 ∧ (s.acc k a i).cnt ≤ m + 1 := ⟨Nat.succ_le_succ hs.1, Nat.succ_le_succ hs.2⟩
theorem CS.room_of {s : CS} (m : Nat) (hs : s.n ≤ m ∧ s.cnt ≤ m) (hm : m < lim) : s.room := ⟨by omega, by omega⟩
theorem New1.le {bits : Int} {s : CS} (h : New1 bits s) : s.n ≤ 1 ∧ s.cnt ≤ 1 := by rw [h.n, h.cnt]; omega

end Go.Proofs.Ytdabcnjjbfmkaaa
