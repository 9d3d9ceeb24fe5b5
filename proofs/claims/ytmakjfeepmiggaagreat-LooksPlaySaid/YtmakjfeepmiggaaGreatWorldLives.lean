/-
  A new world, at hand; layer 10's examples.
-/
import Derived.Test.YtmakjfeepmiggaaGreatWorldDo
namespace Go.Proofs.YtmakjfeepmiggaaGreat
open Go.RowKit Go.Maps
set_option linter.unusedVariables false

theorem bnext {w a b : World} (h : Below w.heap.size w a) (k : Below a.heap.size a b) : Below w.heap.size w b := h.trans (k.mono h.size)
/-- The cells of a new world. -/
structure New1 (bits : Int) (s : CS) : Prop where
  v2 : s.val 2 = tword bits 0
  vo : ∀ a, a ≠ 2 → s.val a = 0
  cnt : s.cnt = 0
  n : s.n = 1
theorem new1 (bits : Int) : New1 bits (CS.init [(2, tword bits 0)]) := ⟨upd_same (fun _ => 0) 2 (tword bits 0), fun a ha => upd_other (fun _ => 0) ha (tword bits 0), rfl, rfl⟩
theorem New1.room {bits : Int} {s : CS} (h : New1 bits s) : s.room := by unfold CS.room lim; rw [h.cnt, h.n]; omega
theorem CS.acc_val {s : CS} (k a i x : Int) (hx : x ≠ a) : (s.acc k a i).val x = s.val x := upd_other _ hx _
theorem CS.acc_self {s : CS} (k a i : Int) : (s.acc k a i).val a = i := upd_same _ _ _

theorem Own.base {w0 w w' : World} {b : Nat} {s : CS} (h : Own w w' b s) (hB : Below w0.heap.size w0 w) : Own w0 w' b s := by
  obtain ⟨⟨S, hS⟩, h2⟩ := h
  exact Own.new hB hS h2
theorem new_wld {w0 w : World} (hB : Below w0.heap.size w0 w) (c : Conf) (hc : c.ok = true) : Calls Tryz.prog 47 #[.agg #[.int .i64 c.bits, .int .i64 c.budget, .int .i64 c.tries, .int .i64 c.quantum, .int .i64 c.way]] w fun e w' => ∃ wb cb s,
    e = .returned (.tuple #[.pointer (some ⟨wb, 0, none⟩), .int .i64 0]) ∧ Wld w0 w' wb cb c s ∧ New1 c.bits s ∧ Below w.heap.size w w' :=
  (wnew_ok c hc w).mono fun e w' ⟨wb, cb, ib, nb, he, hb, _, ho, _⟩ => ⟨wb, cb, _, he, ⟨ho.base hB, ib, nb, tk0, -1, hb⟩, new1 _, ho.below⟩

def conf10 : Conf := ⟨2, 8, 3, 1, 16⟩
def conf00 : Conf := ⟨0, 8, 3, 1, 16⟩
theorem box5r {w w' : World} {q T : Nat} {c0 c1 c2 c3 c4 : Value} (hq : w.heap[q]? = some (.cells #[c0, c1, c2, c3, c4] T (0, 0))) (h : Rest w w') (h1 : (T == 239) = false) (h2 : (T == 294) = false) :
    w'.heap[q]? = some (.cells #[c0, c1, c2, c3, c4] T (0, 0)) ∧ w'.cell? ⟨q, 0, none⟩ = some c0 ∧ w'.cell? ⟨q, 1, none⟩ = some c1 ∧ w'.cell? ⟨q, 2, none⟩ = some c2 ∧ w'.cell? ⟨q, 3, none⟩ = some c3 ∧ w'.cell? ⟨q, 4, none⟩ = some c4 :=
  box5 (h q _ _ _ hq h1 h2) (Below.refl _ _)
theorem room_acc {s : CS} {k a i : Int} (m : Nat) (hs : s.n ≤ m ∧ s.cnt ≤ m) : (s.acc k a i).n ≤ m + 1 ∧ (s.acc k a i).cnt ≤ m + 1 := ⟨Nat.succ_le_succ hs.1, Nat.succ_le_succ hs.2⟩
theorem CS.room_of {s : CS} (m : Nat) (hs : s.n ≤ m ∧ s.cnt ≤ m) (hm : m < lim) : s.room := ⟨by omega, by omega⟩
theorem New1.le {bits : Int} {s : CS} (h : New1 bits s) : s.n ≤ 1 ∧ s.cnt ≤ 1 := by rw [h.n, h.cnt]; omega

end Go.Proofs.YtmakjfeepmiggaaGreat
