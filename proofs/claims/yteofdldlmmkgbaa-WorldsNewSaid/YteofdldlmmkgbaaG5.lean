/-
  Texts of this prover, merged: CellsOwn, PlacesMay, Conf, Items, WorldNew, World.
-/
import Derived.Test.YteofdldlmmkgbaaG4
import Derived.Test.YteofdldlmmkgbaaG1
import Derived.Deep.AppendLies
import Derived.Deep.RegionWith
/-
  Cells that a call itself made: what each access leaves, from the call's beginning on.
-/
namespace Go.Proofs.Yteofdldlmmkgbaa
open Go.RowKit Go.Maps
set_option linter.unusedVariables false

/-- From w0 on, cells at block b were made; of what was in w0 nothing has turned. -/
structure Own (w0 w : World) (b : Nat) (s : CS) : Prop where
  cells : ∃ S, Cells w w0.heap.size b s S
  below : Below w0.heap.size w0 w
theorem Own.new {w0 w w1 : World} {b : Nat} {s : CS} {S : Nat → Prop} (hB : Below w0.heap.size w0 w) (h : Cells w1 w.heap.size b s S) (h2 : Below w.heap.size w w1) : Own w0 w1 b s := by
  refine ⟨⟨S, ?_⟩, hB.trans (h2.mono hB.size)⟩
  obtain ⟨mo, f, h, rfl⟩ := h
  have hs := hB.size
  exact ⟨mo, f, ⟨h.hdr, Nat.le_trans hs h.lo, fun m hm => ⟨(h.map m hm).1, Nat.le_trans hs (h.map m hm).2.1, (h.map m hm).2.2⟩, h.nomap, fun a p hp => ⟨(h.ptr a p hp).1, Nat.le_trans hs (h.ptr a p hp).2.1, (h.ptr a p hp).2.2⟩, h.zero, h.inj, h.wf⟩, rfl⟩
theorem Own.keep {w0 w w1 : World} {b : Nat} {s : CS} (h : Own w0 w b s) (h2 : Below w.heap.size w w1) : Own w0 w1 b s := by
  obtain ⟨⟨S, hS⟩, hB⟩ := h
  exact ⟨⟨S, hS.below h2⟩, hB.trans (h2.mono hB.size)⟩
theorem Own.acc {w0 w w1 : World} {b : Nat} {s s' : CS} {S : Nat → Prop} (hS : Cells w w0.heap.size b s S) (hB : Below w0.heap.size w0 w) (h : Acc w w0.heap.size b s' S w1) : Own w0 w1 b s' := by
  obtain ⟨S', h1, h2, h3⟩ := h
  exact ⟨⟨S', h1⟩, keeps_below h2 hB hB.size fun k hk => (hS.fp k hk).1⟩
theorem Own.wf {w0 w : World} {b : Nat} {s : CS} (h : Own w0 w b s) (a : Int) : (Lit.int .u64 (s.val a)).wf = true := by
  obtain ⟨⟨S, mo, f, h, _⟩, _⟩ := h; exact h.wf a
/-- What is no cells' header and no word of cells stays as it was. -/
def Rest (w w' : World) : Prop := ∀ (k : Nat) (cs : Array Value) (T : TypeId) (fr : Nat × Nat), w.heap[k]? = some (Obj.cells cs T fr) → (T == 167) = false → (T == 212) = false → w'.heap[k]? = some (Obj.cells cs T fr)
theorem Acc.rest {w w' : World} {base b : Nat} {s s' : CS} {S : Nat → Prop} (hS : Cells w base b s S) (h : Acc w base b s' S w') : Rest w w' := by
  intro k cs T fr hk h1 h2
  obtain ⟨S', _, hK, _⟩ := h
  rw [hK.block k (Array.getElem?_eq_some_iff.1 hk).1 (fun c => ?_)]; exact hk
  obtain ⟨mo, f, hA, rfl⟩ := hS
  rcases c with rfl | hm | ⟨a, ha⟩
  · have := hA.hdr.symm.trans hk; simp only [Option.some.injEq, Obj.cells.injEq] at this; rw [← this.2.1] at h1; simp at h1
  · obtain ⟨⟨D, ⟨es, cl, hb, _⟩, _⟩, _⟩ := hA.map k hm
    have := hb.symm.trans hk; cases this
  · have := (hA.ptr a k ha).1.symm.trans hk; simp only [wordC, Option.some.injEq, Obj.cells.injEq] at this; rw [← this.2.1] at h2; simp at h2
theorem below_rest {w w' : World} (h : Below w.heap.size w w') : Rest w w' := fun k cs T fr hk _ _ => (h.block k (Array.getElem?_eq_some_iff.1 hk).1).trans hk
/-- There is room for more accesses. -/
def CS.room (s : CS) : Prop := s.n < lim ∧ s.cnt < lim

section
variable {w0 w : World} {b : Nat} {s : CS} (h : Own w0 w b s) (hr : s.room) (a : Int) (ha : (Lit.int .u64 a).wf = true)
include h hr ha
theorem load_own : Calls Try.prog 120 #[.pointer (some ⟨b, 0, none⟩), .int .u64 a] w fun e w' => e = .returned (.int .u64 (s.val a)) ∧ Own w0 w' b (s.acc 1 a (s.val a)) := by
  obtain ⟨⟨S, hS⟩, hB⟩ := h
  exact (load_any w _ b s S hS a ha hr.1 hr.2 hB.size).mono fun e w' ⟨he, hA⟩ => ⟨he, Own.acc hS hB hA⟩
theorem store_own (v : Int) (hv : (Lit.int .u64 v).wf = true) : Calls Try.prog 83 #[.pointer (some ⟨b, 0, none⟩), .int .u64 a, .int .u64 v] w fun e w' => e = .returned (.int .u64 (s.val a)) ∧ Own w0 w' b (s.acc 2 a v) := by
  obtain ⟨⟨S, hS⟩, hB⟩ := h
  exact (store_any w _ b s S hS a v ha hv hr.1 hr.2 hB.size).mono fun e w' ⟨he, hA⟩ => ⟨he, Own.acc hS hB hA⟩
theorem add_own (v : Int) : Calls Try.prog 22 #[.pointer (some ⟨b, 0, none⟩), .int .u64 a, .int .u64 v] w fun e w' => e = .returned (.int .u64 (s.val a)) ∧ Own w0 w' b (s.acc 4 a (wu (s.val a + v))) := by
  obtain ⟨⟨S, hS⟩, hB⟩ := h
  exact (add_any w _ b s S hS a v ha hr.1 hr.2 hB.size).mono fun e w' ⟨he, hA⟩ => ⟨he, Own.acc hS hB hA⟩
theorem cas_own (x y : Int) (hy : (Lit.int .u64 y).wf = true) : Calls Try.prog 79 #[.pointer (some ⟨b, 0, none⟩), .int .u64 a, .int .u64 x, .int .u64 y] w fun e w' => e = .returned (.tuple #[.int .u64 (s.val a), .bool (s.val a == x)]) ∧
    Own w0 w' b (s.acc 3 a (if s.val a = x then y else s.val a)) := by
  obtain ⟨⟨S, hS⟩, hB⟩ := h
  exact (cas_any w _ b s S hS a x y ha hy hr.1 hr.2 hB.size).mono fun e w' ⟨he, hA⟩ => ⟨he, Own.acc hS hB hA⟩
omit hr in
theorem peek_own : Calls Try.prog 27 #[.pointer (some ⟨b, 0, none⟩), .int .u64 a] w fun e w' => e = .returned (.int .u64 (s.val a)) ∧ w' = w := by
  obtain ⟨⟨S, hS⟩, hB⟩ := h
  exact peek_any w _ b s S hS a ha
omit hr ha in
theorem count_own : Calls Try.prog 68 #[.pointer (some ⟨b, 0, none⟩)] w fun e w' => e = .returned (.int .i64 s.cnt) ∧ w' = w := by
  obtain ⟨⟨S, hS⟩, hB⟩ := h
  exact count_any w _ b s S hS
omit hr ha in
theorem last_own : Calls Try.prog 30 #[.pointer (some ⟨b, 0, none⟩)] w fun e w' => e = .returned (accV s.kind s.addr s.was s.is) ∧ Own w0 w' b s := by
  have h0 := h
  obtain ⟨⟨S, hS⟩, hB⟩ := h
  exact (last_any w _ b s S hS).mono fun e w' ⟨he, hA⟩ => ⟨he, h0.keep hA⟩
omit hr ha in
theorem words0_own (hz : ∀ a, s.val a = 0) : Calls Try.prog 101 #[.pointer (some ⟨b, 0, none⟩)] w fun e w' => e = .returned (.slice none 0 0) ∧ Own w0 w' b s := by
  have h0 := h
  obtain ⟨⟨S, hS⟩, hB⟩ := h
  exact (words_zero w _ b s S hS hz).mono fun e w' ⟨he, hA⟩ => ⟨he, h0.keep hA⟩
end
theorem new_own {w0 w : World} (hB : Below w0.heap.size w0 w) : Calls Try.prog 52 #[.slice none 0 0] w fun e w' => ∃ b, e = .returned (.pointer (some ⟨b, 0, none⟩)) ∧ Own w0 w' b CS.zero :=
  (new_nil w).mono fun e w' ⟨b, S, he, h1, h2⟩ => ⟨b, he, Own.new hB h1 h2⟩

theorem upd_upd {α : Type} (f : Int → α) (a : Int) (x y : α) : upd (upd f a x) a y = upd f a y := by
  funext k; unfold upd; split <;> rfl
theorem upd_id {α : Type} (f : Int → α) (a : Int) : upd f a (f a) = f := by
  funext k; unfold upd; split
  · rename_i h; rw [h]
  · rfl

/-- Cells of which one address alone was spoken of: v stands there; c accesses. -/
def One (w0 w : World) (b : Nat) (a v : Int) (c : Nat) : Prop := ∃ s, Own w0 w b s ∧ s.val a = v ∧ (∀ x, x ≠ a → s.val x = 0) ∧ s.cnt = c ∧ s.n = c
theorem One.new {w0 w : World} (a : Int) (hB : Below w0.heap.size w0 w) : Calls Try.prog 52 #[.slice none 0 0] w fun e w' => ∃ b, e = .returned (.pointer (some ⟨b, 0, none⟩)) ∧ One w0 w' b a 0 0 :=
  (new_own hB).mono fun e w' ⟨b, he, h⟩ => ⟨b, he, CS.zero, h, rfl, fun _ _ => rfl, rfl, rfl⟩
theorem One.of {w0 w' : World} {b : Nat} {s : CS} {a : Int} {c : Nat} (k i : Int) (h : Own w0 w' b (s.acc k a i)) (h1 : ∀ x, x ≠ a → s.val x = 0) (h2 : s.cnt = c) (h3 : s.n = c) : One w0 w' b a i (c + 1) :=
  ⟨_, h, upd_same _ _ _, fun x hx => (upd_other _ hx _).trans (h1 x hx), by simp [CS.acc, h2], by simp [CS.acc, h3]⟩
section
variable {w0 w : World} {b : Nat} {a v : Int} {c : Nat} (h : One w0 w b a v c) (ha : (Lit.int .u64 a).wf = true) (hc : c < 1000)
include h ha hc
theorem One.load : Calls Try.prog 120 #[.pointer (some ⟨b, 0, none⟩), .int .u64 a] w fun e w' => e = .returned (.int .u64 v) ∧ One w0 w' b a v (c + 1) := by
  obtain ⟨s, h, h1, h2, h3, h4⟩ := h
  subst h1
  exact (load_own h (by unfold CS.room lim; omega) a ha).mono fun e w' ⟨he, hA⟩ => ⟨he, One.of _ _ hA h2 h3 h4⟩
theorem One.store (x : Int) (hx : (Lit.int .u64 x).wf = true) : Calls Try.prog 83 #[.pointer (some ⟨b, 0, none⟩), .int .u64 a, .int .u64 x] w fun e w' => e = .returned (.int .u64 v) ∧ One w0 w' b a x (c + 1) := by
  obtain ⟨s, h, h1, h2, h3, h4⟩ := h
  subst h1
  exact (store_own h (by unfold CS.room lim; omega) a ha x hx).mono fun e w' ⟨he, hA⟩ => ⟨he, One.of _ _ hA h2 h3 h4⟩
theorem One.add (x : Int) : Calls Try.prog 22 #[.pointer (some ⟨b, 0, none⟩), .int .u64 a, .int .u64 x] w fun e w' => e = .returned (.int .u64 v) ∧ One w0 w' b a (wu (v + x)) (c + 1) := by
  obtain ⟨s, h, h1, h2, h3, h4⟩ := h
  subst h1
  exact (add_own h (by unfold CS.room lim; omega) a ha x).mono fun e w' ⟨he, hA⟩ => ⟨he, One.of _ _ hA h2 h3 h4⟩
theorem One.cas (y : Int) (hy : (Lit.int .u64 y).wf = true) : Calls Try.prog 79 #[.pointer (some ⟨b, 0, none⟩), .int .u64 a, .int .u64 v, .int .u64 y] w fun e w' => e = .returned (.tuple #[.int .u64 v, .bool true]) ∧ One w0 w' b a y (c + 1) := by
  obtain ⟨s, h, h1, h2, h3, h4⟩ := h
  subst h1
  refine (cas_own h (by unfold CS.room lim; omega) a ha (s.val a) y hy).mono fun e w' ⟨he, hA⟩ => ?_
  simp only [beq_self_eq_true, if_true] at he hA
  exact ⟨he, One.of _ _ hA h2 h3 h4⟩
theorem One.cas_not (x y : Int) (hx : v ≠ x) (hy : (Lit.int .u64 y).wf = true) : Calls Try.prog 79 #[.pointer (some ⟨b, 0, none⟩), .int .u64 a, .int .u64 x, .int .u64 y] w fun e w' => e = .returned (.tuple #[.int .u64 v, .bool false]) ∧ One w0 w' b a v (c + 1) := by
  obtain ⟨s, h, h1, h2, h3, h4⟩ := h
  subst h1
  refine (cas_own h (by unfold CS.room lim; omega) a ha x y hy).mono fun e w' ⟨he, hA⟩ => ?_
  simp only [beq_eq_false_iff_ne.2 hx, if_neg hx] at he hA
  exact ⟨he, One.of _ _ hA h2 h3 h4⟩
omit hc in
theorem One.peek : Calls Try.prog 27 #[.pointer (some ⟨b, 0, none⟩), .int .u64 a] w fun e w' => e = .returned (.int .u64 v) ∧ w' = w := by
  obtain ⟨s, h, h1, h2, h3, h4⟩ := h
  subst h1
  exact peek_own h a ha
omit hc ha in
theorem One.count : Calls Try.prog 68 #[.pointer (some ⟨b, 0, none⟩)] w fun e w' => e = .returned (.int .i64 c) ∧ w' = w := by
  obtain ⟨s, h, h1, h2, h3, h4⟩ := h
  subst h3
  exact count_own h
omit hc ha in
theorem One.words0 (hv : v = 0) : Calls Try.prog 101 #[.pointer (some ⟨b, 0, none⟩)] w fun e w' => e = .returned (.slice none 0 0) ∧ One w0 w' b a v c := by
  obtain ⟨s, h, h1, h2, h3, h4⟩ := h
  refine (words0_own h (fun x => ?_)).mono fun e w' ⟨he, hA⟩ => ⟨he, s, hA, h1, h2, h3, h4⟩
  by_cases hx : x = a
  · rw [hx, h1, hv]
  · exact h2 x hx
omit hc ha in
theorem One.below : Below w0.heap.size w0 w := by obtain ⟨s, h, _⟩ := h; exact h.below
end

theorem One.keep {w0 w w1 : World} {b : Nat} {a v : Int} {c : Nat} (h : One w0 w b a v c) (h2 : Below w.heap.size w w1) : One w0 w1 b a v c := by
  obtain ⟨s, h, r⟩ := h
  exact ⟨s, h.keep h2, r⟩

end Go.Proofs.Yteofdldlmmkgbaa

/-
  How many slots there are; may tables grow?
-/
namespace Go.Proofs.Yteofdldlmmkgbaa
open Go.RowKit
set_option linter.unusedVariables false

theorem ret_bool {a b : Bool} (h : a = b) : Ending.returned (.bool a) = .returned (.bool b) := by rw [h]
def spots (v : Int) : Int := 4 * (tsize (asOld v) + tsize (asNow v))
theorem as_range (v : Int) : 0 ≤ asOld v ∧ asOld v < 256 ∧ 0 ≤ asNow v ∧ asNow v < 256 := by
  unfold asNow asOld
  split <;> split <;> omega
/-- May a table of so many bits grow? -/
def pmay (first budget bits : Int) : Bool := !(tsize first == 0 || tsize bits == 0 || tsize (bits + 1) == 0) && decide (4 * (tsize bits + tsize (bits + 1)) ≤ 8 * max (min budget 65536) (4 * tsize first))
theorem pmay_any (first budget bits : Int) (hb : 0 ≤ bits ∧ bits < 256) (hg : (Lit.int .i64 budget).wf = true) (w : World) : Calls Try.prog 61 #[.int .i64 first, .int .i64 budget, .int .i64 bits] w fun e w' => e = .returned (.bool (pmay first budget bits)) ∧ w' = w := by
  have hs1 := tsize_le first
  have hs2 := tsize_le bits
  have hs3 := tsize_le (bits + 1)
  unfold pmay
  cases e1 : (tsize first == 0)
  · cases e2 : (tsize bits == 0)
    · cases e3 : (tsize (bits + 1) == 0)
      · have hm : -9223372036854775808 ≤ budget := by
          have hmin : IntKind.i64.min = -9223372036854775808 := rfl
          simp only [Lit.wf, Bool.and_eq_true, decide_eq_true_eq] at hg; omega
        go_enter Try.func61, Try.ntmps61
        go_wp2_with (first | (go_at_call 92; refine (size_any _ _).mono ?_; rintro e w' ⟨rfl, rfl⟩))
        all_goals (go_ret; exact ⟨ret_bool (decide_eq_decide.2 (by omega)), rfl⟩)
      · go_enter Try.func61, Try.ntmps61
        go_wp2_with (first | (go_at_call 92; refine (size_any _ _).mono ?_; rintro e w' ⟨rfl, rfl⟩))
        go_ret
        exact ⟨rfl, rfl⟩
    · go_enter Try.func61, Try.ntmps61
      go_wp2_with (first | (go_at_call 92; refine (size_any _ _).mono ?_; rintro e w' ⟨rfl, rfl⟩))
      go_ret
      exact ⟨rfl, rfl⟩
  · go_enter Try.func61, Try.ntmps61
    go_wp2_with (first | (go_at_call 92; refine (size_any _ _).mono ?_; rintro e w' ⟨rfl, rfl⟩))
    go_ret
    exact ⟨rfl, rfl⟩
end Go.Proofs.Yteofdldlmmkgbaa

/-
  Configs of worlds.
-/
namespace Go.Proofs.Yteofdldlmmkgbaa
open Go.RowKit
set_option linter.unusedVariables false

structure Conf where
  bits : Int
  budget : Int
  tries : Int
  quantum : Int
  way : Int
def Conf.cells (c : Conf) : List Value := [.int .i64 c.bits, .int .i64 c.budget, .int .i64 c.tries, .int .i64 c.quantum, .int .i64 c.way]
def Conf.ok (c : Conf) : Bool := decide (1 ≤ c.bits ∧ c.bits ≤ 12) && decide (1 ≤ c.budget ∧ c.budget ≤ 65536) && decide (0 ≤ c.tries ∧ c.tries ≤ 16) && decide (1 ≤ c.quantum ∧ c.quantum ≤ 8) && decide (2 ≤ c.way ∧ c.way ≤ 256)
def Conf.wf (c : Conf) : Prop := (Lit.int .i64 c.bits).wf = true ∧ (Lit.int .i64 c.budget).wf = true ∧ (Lit.int .i64 c.tries).wf = true ∧ (Lit.int .i64 c.quantum).wf = true ∧ (Lit.int .i64 c.way).wf = true

theorem conf_false {b : Bool} (h : b = false) : Ending.returned (.bool false) = .returned (.bool b) := by rw [h]
theorem conf_true {b : Bool} (h : b = true) : Ending.returned (.bool true) = .returned (.bool b) := by rw [h]
set_option maxRecDepth 10000 in
set_option maxHeartbeats 4000000 in
theorem wmay_any (c : Conf) (w : World) : Calls Try.prog 11 #[.agg #[.int .i64 c.bits, .int .i64 c.budget, .int .i64 c.tries, .int .i64 c.quantum, .int .i64 c.way]] w fun e w' => e = .returned (.bool c.ok) ∧ Below w.heap.size w w' := by
  have i0 : ∀ w, (Instr.index 140 (.agg #[.int .i64 c.bits, .int .i64 1, .int .i64 12, .int .i64 c.budget, .int .i64 1, .int .i64 65536, .int .i64 c.tries, .int .i64 0, .int .i64 16, .int .i64 c.quantum, .int .i64 1, .int .i64 8, .int .i64 c.way, .int .i64 2, .int .i64 256]) (.int .i64 0)).run Try.prog w = .ok (.agg #[.int .i64 c.bits, .int .i64 1, .int .i64 12]) w := fun _ => by kernel_rfl
  have i1 : ∀ w, (Instr.index 140 (.agg #[.int .i64 c.bits, .int .i64 1, .int .i64 12, .int .i64 c.budget, .int .i64 1, .int .i64 65536, .int .i64 c.tries, .int .i64 0, .int .i64 16, .int .i64 c.quantum, .int .i64 1, .int .i64 8, .int .i64 c.way, .int .i64 2, .int .i64 256]) (.int .i64 1)).run Try.prog w = .ok (.agg #[.int .i64 c.budget, .int .i64 1, .int .i64 65536]) w := fun _ => by kernel_rfl
  have i2 : ∀ w, (Instr.index 140 (.agg #[.int .i64 c.bits, .int .i64 1, .int .i64 12, .int .i64 c.budget, .int .i64 1, .int .i64 65536, .int .i64 c.tries, .int .i64 0, .int .i64 16, .int .i64 c.quantum, .int .i64 1, .int .i64 8, .int .i64 c.way, .int .i64 2, .int .i64 256]) (.int .i64 2)).run Try.prog w = .ok (.agg #[.int .i64 c.tries, .int .i64 0, .int .i64 16]) w := fun _ => by kernel_rfl
  have i3 : ∀ w, (Instr.index 140 (.agg #[.int .i64 c.bits, .int .i64 1, .int .i64 12, .int .i64 c.budget, .int .i64 1, .int .i64 65536, .int .i64 c.tries, .int .i64 0, .int .i64 16, .int .i64 c.quantum, .int .i64 1, .int .i64 8, .int .i64 c.way, .int .i64 2, .int .i64 256]) (.int .i64 3)).run Try.prog w = .ok (.agg #[.int .i64 c.quantum, .int .i64 1, .int .i64 8]) w := fun _ => by kernel_rfl
  have i4 : ∀ w, (Instr.index 140 (.agg #[.int .i64 c.bits, .int .i64 1, .int .i64 12, .int .i64 c.budget, .int .i64 1, .int .i64 65536, .int .i64 c.tries, .int .i64 0, .int .i64 16, .int .i64 c.quantum, .int .i64 1, .int .i64 8, .int .i64 c.way, .int .i64 2, .int .i64 256]) (.int .i64 4)).run Try.prog w = .ok (.agg #[.int .i64 c.way, .int .i64 2, .int .i64 256]) w := fun _ => by kernel_rfl
  go_enter Try.func11, Try.ntmps11
  go_wp2
  refine wp_loop_rounds 6 ?_
  iterate 6 (all_goals (first | (rw [rounds_succ]; go_wp2) | (go_ret; refine ⟨conf_false (by simp only [Conf.ok, Bool.and_eq_false_iff, decide_eq_false_iff_not]; omega), ?_⟩; repeat (first | exact Below.refl _ _ | refine Below.alloc ?_ (by simp <;> omega) _))))
  all_goals (first | (go_ret; refine ⟨conf_false (by simp only [Conf.ok, Bool.and_eq_false_iff, decide_eq_false_iff_not]; omega), ?_⟩; repeat (first | exact Below.refl _ _ | refine Below.alloc ?_ (by simp <;> omega) _)) | (go_ret; refine ⟨conf_true (by simp only [Conf.ok, Bool.and_eq_true, decide_eq_true_eq]; omega), ?_⟩; repeat (first | exact Below.refl _ _ | refine Below.alloc ?_ (by simp <;> omega) _)))
end Go.Proofs.Yteofdldlmmkgbaa

/-
  Records, and the walks of package items.
-/
namespace Go.Proofs.Yteofdldlmmkgbaa
open Go.RowKit
set_option linter.unusedVariables false

/-- A record, as its six cells hold it. -/
structure Itm where
  key : ByteArray
  val : ByteArray
  flags : Int
  id : Int
  dies : Int
  gen : Int
def Itm.cells (x : Itm) : List Value := [.string x.key, .string x.val, .int .u32 x.flags, .int .u64 x.id, .int .i64 x.dies, .int .i64 x.gen]
def Itm.zero : Itm := ⟨ByteArray.empty, ByteArray.empty, 0, 0, 0, 0⟩

theorem place_any (b g nb cap p n o : Nat) (w : World) (ho : n % 64 * 6 = o) (hm : n ≤ 1048576)
    (h1 : w.cell? ⟨b, 0, none⟩ = some (.slice (some ⟨g, 0, none⟩) nb cap)) (hn : n / 64 < nb)
    (h2 : w.cell? ⟨g, n / 64, none⟩ = some (.pointer (some ⟨p, 0, none⟩))) :
    Calls Try.prog 73 #[.pointer (some ⟨b, 0, none⟩), .int .i64 n] w fun e w' => e = .returned (.pointer (some ⟨p, o, none⟩)) ∧ w = w' := by
  subst ho
  have hn' : (n : Int) / 64 < (nb : Int) := by omega
  go_enter Try.func73, Try.ntmps73
  go_wp2
  go_ret
  exact ⟨rfl, rfl⟩

theorem add_nil (x : Itm) (w : World) : Calls Try.prog 23 #[.pointer none, .agg x.cells.toArray] w fun e w' => e = .returned (.tuple #[.int .i64 0, .int .i64 2]) ∧ Below w.heap.size w w' := by
  go_enter Try.func23, Try.ntmps23
  go_wp2
  go_ret2
  exact ⟨rfl, (Below.refl _ _).alloc (Nat.le_refl _) _⟩

theorem info_pblk : (Try.prog.info? 158).map (fun i => (i.zero, i.size, i.bytes)) = some (some (.pointer none), 1, 8) := by kernel_rfl
/-- A new block of records: 384 cells. -/
theorem zero_block : ∃ z : Array Value, z.size = 384 ∧ ∀ w, (zeroValue 160).run Try.prog w = .ok (.agg z) w :=
  ⟨(List.replicate 64 Itm.zero.cells).flatten.toArray, by decide +kernel, fun w => by kernel_rfl⟩

theorem news_one (W : World) (v : Value) (T n : Nat) (h : n = W.heap.size) : ∀ j u, [v][j]? = some u → (W.alloc (.cells #[v] T)).cell? ((⟨n, 0, none⟩ : Addr).add j) = some u := by
  subst h; exact cell_one_new _ _ _

/-- What a program arena holds: block b has the header; ps: its blocks of records. -/
structure ArenaAt (w : World) (base b : Nat) (ao : Option Addr) (cap : Nat) (ps : List Nat) (l : List Itm) : Prop where
  hdr : w.heap[b]? = some (.cells #[.slice ao ps.length cap, .int .i64 l.length] 157 (0, 0))
  own : w.ownsRow base 158 1 (.slice ao ps.length cap) ps.length (ps.map fun p => .pointer (some ⟨p, 0, none⟩))
  lo : base ≤ b
  los : ∀ p ∈ ps, base ≤ p
  most : l.length ≤ 64 * ps.length
  least : 64 * ps.length < l.length + 64
  blk : ∀ j, (hj : j < ps.length) → ∃ cs : Array Value, w.heap[ps[j]]? = some (.cells cs 160 (0, 0)) ∧ cs.size = 384 ∧ ∀ i, i < 64 → (hi : 64 * j + i < l.length) → ∀ f, f < 6 → cs[6 * i + f]? = (l[64 * j + i]).cells[f]?
  nodup : ps.Nodup
  nb : b ∉ ps
  no : (Value.slice ao ps.length cap).ownBlock ≠ some b
  nps : ∀ p ∈ ps, (Value.slice ao ps.length cap).ownBlock ≠ some p
/-- The blocks of an arena. -/
def arenaFp (b : Nat) (ao : Option Addr) (ps : List Nat) (k : Nat) : Prop := k = b ∨ (∃ a, ao = some a ∧ a.block = k) ∨ k ∈ ps
/-- An arena whose blocks are S. -/
def Arena (w : World) (base b : Nat) (l : List Itm) (S : Nat → Prop) : Prop := ∃ ao cap ps, ArenaAt w base b ao cap ps l ∧ S = arenaFp b ao ps

theorem ArenaAt.keep {w w' : World} {base b : Nat} {ao : Option Addr} {cap : Nat} {ps : List Nat} {l : List Itm} (h : ArenaAt w base b ao cap ps l) (hk : ∀ k, arenaFp b ao ps k → w'.heap[k]? = w.heap[k]?) : ArenaAt w' base b ao cap ps l := by
  refine ⟨by rw [hk b (.inl rfl)]; exact h.hdr, ?_, h.lo, h.los, h.most, h.least, fun j hj => ?_, h.nodup, h.nb, h.no, h.nps⟩
  · refine ⟨h.own.1, ?_⟩
    rcases h.own.2 with hn | ⟨g, c, cur, hv, hg, hh, r⟩
    · exact .inl hn
    · refine .inr ⟨g, c, cur, hv, hg, ?_, r⟩
      simp only [Value.slice.injEq] at hv
      rw [hk g (.inr (.inl ⟨_, hv.1, rfl⟩))]; exact hh
  · obtain ⟨cs, h1, h2⟩ := h.blk j hj
    exact ⟨cs, by rw [hk _ (.inr (.inr (List.getElem_mem hj)))]; exact h1, h2⟩
theorem Arena.keep {w w' : World} {base b : Nat} {l : List Itm} {S : Nat → Prop} (h : Arena w base b l S) (hk : ∀ k, S k → w'.heap[k]? = w.heap[k]?) : Arena w' base b l S := by
  obtain ⟨ao, cap, ps, h, rfl⟩ := h
  exact ⟨ao, cap, ps, h.keep hk, rfl⟩
theorem Arena.fp {w : World} {base b : Nat} {l : List Itm} {S : Nat → Prop} (h : Arena w base b l S) : ∀ k, S k → base ≤ k ∧ k < w.heap.size := by
  obtain ⟨ao, cap, ps, h, rfl⟩ := h
  rintro k (rfl | ⟨a, rfl, rfl⟩ | hk)
  · exact ⟨h.lo, (Array.getElem?_eq_some_iff.1 h.hdr).1⟩
  · exact h.own.lt _ rfl
  · obtain ⟨j, hj, rfl⟩ := List.mem_iff_getElem.1 hk
    obtain ⟨cs, h1, _⟩ := h.blk j hj
    exact ⟨h.los _ hk, (Array.getElem?_eq_some_iff.1 h1).1⟩
theorem Arena.below {w w' : World} {base b : Nat} {l : List Itm} {S : Nat → Prop} (h : Arena w base b l S) (hb : Below w.heap.size w w') : Arena w' base b l S :=
  h.keep fun k hk => hb.block k (h.fp k hk).2
theorem Arena.keeps {w w' : World} {base b : Nat} {l : List Itm} {S T : Nat → Prop} (h : Arena w base b l S) (hb : Keeps T w w') (hd : ∀ k, S k → ¬ T k) : Arena w' base b l S :=
  h.keep fun k hk => hb.block k (h.fp k hk).2 (hd k hk)

/-- Six cells written one behind the other. -/
def put6 (cs : Array Value) (o : Nat) (x : Itm) : Array Value :=
  (((((cs.setIfInBounds o (.string x.key)).setIfInBounds (o + 1) (.string x.val)).setIfInBounds (o + 2) (.int .u32 x.flags)).setIfInBounds (o + 3) (.int .u64 x.id)).setIfInBounds (o + 4) (.int .i64 x.dies)).setIfInBounds (o + 5) (.int .i64 x.gen)
theorem put6_size (cs : Array Value) (o : Nat) (x : Itm) : (put6 cs o x).size = cs.size := by simp [put6]
theorem put6_in (cs : Array Value) (o : Nat) (x : Itm) (f : Nat) (hf : f < 6) (ho : o + 6 ≤ cs.size) : (put6 cs o x)[o + f]? = x.cells[f]? := by
  have h0 : o < cs.size := by omega
  have h1 : o + 1 < cs.size := by omega
  have h2 : o + 2 < cs.size := by omega
  have h3 : o + 3 < cs.size := by omega
  have h4 : o + 4 < cs.size := by omega
  have h5 : o + 5 < cs.size := by omega
  match f, hf with
  | 0, _ => simp [put6, Itm.cells, h0]
  | 1, _ => simp [put6, Itm.cells, h1]
  | 2, _ => simp [put6, Itm.cells, h2]
  | 3, _ => simp [put6, Itm.cells, h3]
  | 4, _ => simp [put6, Itm.cells, h4]
  | 5, _ => simp [put6, Itm.cells, h5]
theorem put6_out (cs : Array Value) (o : Nat) (x : Itm) (k : Nat) (hk : k < o ∨ o + 6 ≤ k) : (put6 cs o x)[k]? = cs[k]? := by
  have h0 : o ≠ k := by omega
  have h1 : o + 1 ≠ k := by omega
  have h2 : o + 2 ≠ k := by omega
  have h3 : o + 3 ≠ k := by omega
  have h4 : o + 4 ≠ k := by omega
  have h5 : o + 5 ≠ k := by omega
  simp [put6, h0, h1, h2, h3, h4, h5]
end Go.Proofs.Yteofdldlmmkgbaa

/-
  New worlds.
-/
namespace Go.Proofs.Yteofdldlmmkgbaa
open Go.RowKit Go.Maps
set_option linter.unusedVariables false

theorem items_new (w : World) : Calls Try.prog 53 #[] w fun e w' => e = .returned (.pointer (some ⟨w.heap.size, 0, none⟩)) ∧ w' = w.alloc (.cells #[.slice none 0 0, .int .i64 0] 157) := by
  go_enter Try.func53, Try.ntmps53
  go_wp2
  go_ret
  exact ⟨rfl, rfl⟩
theorem notes_new (w : World) : Calls Try.prog 54 #[] w fun e w' => e = .returned (.pointer (some ⟨w.heap.size, 0, none⟩)) ∧ w' = w.alloc (.cells #[.slice none 0 0] 197) := by
  go_enter Try.func54, Try.ntmps54
  go_wp2
  go_ret
  exact ⟨rfl, rfl⟩

/-- What a world's block holds. -/
def worldV (cb ib nb : Nat) (c : Conf) (tk : List Value) (holder : Int) : List Value :=
  [.pointer (some ⟨cb, 0, none⟩), .pointer (some ⟨ib, 0, none⟩), .pointer (some ⟨nb, 0, none⟩)] ++ c.cells ++ tk ++ [.int .i64 holder]
def tk0 : List Value := List.replicate 64 (.int .u64 0)

set_option maxRecDepth 10000 in
set_option maxHeartbeats 2000000 in
theorem wnew_bad (c : Conf) (hc : c.ok = false) (w : World) : Calls Try.prog 8 #[.agg #[.int .i64 c.bits, .int .i64 c.budget, .int .i64 c.tries, .int .i64 c.quantum, .int .i64 c.way]] w fun e w' => e = .returned (.tuple #[.pointer none, .int .i64 1]) ∧ Below w.heap.size w w' := by
  go_enter Try.func8, Try.ntmps8
  go_wp2_with (go_at_call 11; refine (wmay_any c _).mono ?_; rw [hc]; rintro e w1 ⟨rfl, h1⟩)
  go_ret2
  exact ⟨rfl, ((Below.refl _ w).alloc (Nat.le_refl _) _).trans (h1.mono (by simp))⟩

theorem new_first {w0 : World} (w : World) (hB : Below w0.heap.size w0 w) (a v : Int) (ha : (Lit.int .u64 a).wf = true) (hv : (Lit.int .u64 v).wf = true) :
    Calls Try.prog 52 #[.slice (some ⟨w.heap.size, 0, none⟩) 1 1] (w.alloc (.cells #[.int .u64 a, .int .u64 v] 121)) fun e w' => ∃ b, e = .returned (.pointer (some ⟨b, 0, none⟩)) ∧ Own w0 w' b (CS.init [(a, v)]) ∧ Below w.heap.size w w' := by
  have hq := heap_alloc_new w (.cells #[.int .u64 a, .int .u64 v] 121)
  have hb1 : Below w.heap.size w (w.alloc (.cells #[.int .u64 a, .int .u64 v] 121)) := (Below.refl _ _).alloc (Nat.le_refl _) _
  refine (new_words (w.alloc (.cells #[.int .u64 a, .int .u64 v] 121)) w.heap.size 0 1 [(a, v)] (by simp) (by unfold maxLen; omega) (by unfold lim; simp) (fun k hk => ?_) (fun p hp => ?_)).mono fun e w' ⟨b, S, he, h1, h2⟩ => ⟨b, he, Own.new (hB.alloc hB.size _) h1 h2, hb1.trans (h2.mono hb1.size)⟩
  · have hk0 : k = 0 := by simpa using hk
    subst hk0
    have c : ∀ o, (w.alloc (.cells #[.int .u64 a, .int .u64 v] 121)).cell? ⟨w.heap.size, o, none⟩ = (#[.int .u64 a, .int .u64 v] : Array Value)[o]? := fun o => by
      unfold World.cell?
      simp only
      rw [hq]
      rfl
    exact ⟨c 0, c 1⟩
  · simp only [List.mem_singleton] at hp
    rw [hp]; exact ⟨ha, hv⟩

theorem box5 {w w' : World} {q T : Nat} {c0 c1 c2 c3 c4 : Value} (hq : w.heap[q]? = some (.cells #[c0, c1, c2, c3, c4] T (0, 0))) (h : Below w.heap.size w w') :
    w'.heap[q]? = some (.cells #[c0, c1, c2, c3, c4] T (0, 0)) ∧ w'.cell? ⟨q, 0, none⟩ = some c0 ∧ w'.cell? ⟨q, 1, none⟩ = some c1 ∧ w'.cell? ⟨q, 2, none⟩ = some c2 ∧ w'.cell? ⟨q, 3, none⟩ = some c3 ∧ w'.cell? ⟨q, 4, none⟩ = some c4 := by
  have h3 := (h.block q (Array.getElem?_eq_some_iff.1 hq).1).trans hq
  have c : ∀ o, w'.cell? ⟨q, o, none⟩ = (#[c0, c1, c2, c3, c4] : Array Value)[o]? := fun o => by
    unfold World.cell?; simp only; rw [h3]; rfl
  exact ⟨h3, c 0, c 1, c 2, c 3, c 4⟩
theorem tword_wf (o n : Int) : (Lit.int .u64 (tword o n)).wf = true := by
  have hmin : IntKind.u64.min = 0 := rfl
  have hmax : IntKind.u64.max = 18446744073709551615 := rfl
  have h : 0 ≤ tword o n ∧ tword o n ≤ 65535 := by unfold tword; omega
  generalize tword o n = t at *
  simp only [Lit.wf, Bool.and_eq_true, decide_eq_true_eq]; omega

/-- The cells of a new world. -/
noncomputable def newCells (cb ib nb : Nat) (c : Conf) : Array Value :=
  (((((((((Try.zeroCells42.setIfInBounds 0 (.pointer (some ⟨cb, 0, none⟩))).setIfInBounds 1 (.pointer (some ⟨ib, 0, none⟩))).setIfInBounds 2 (.pointer (some ⟨nb, 0, none⟩))).setIfInBounds 3 (.int .i64 c.bits)).setIfInBounds
    4 (.int .i64 c.budget)).setIfInBounds 5 (.int .i64 c.tries)).setIfInBounds 6 (.int .i64 c.quantum)).setIfInBounds 7 (.int .i64 c.way)).setIfInBounds 72 (.int .i64 (-1)))
theorem new_cells (cb ib nb : Nat) (c : Conf) : newCells cb ib nb c = (worldV cb ib nb c tk0 (-1)).toArray := by
  kernel_rfl
theorem new_fin {w w3 w4 : World} {cb : Nat} {v : Int} (hB : Below w.heap.size w w3) (g1 : Own w w4 cb (CS.init [(2, v)])) (g2 : Below w3.drew.heap.size w3.drew w4) (l1 : w.heap.size < w3.heap.size) (c : Conf) :
    let W := ((w4.alloc (.cells #[.slice none 0 0, .int .i64 0] 157)).alloc (.cells #[.slice none 0 0] 197)).alloc (.cells (newCells cb w4.heap.size (w4.heap.size + 1) c) 42)
    W.heap[w4.heap.size + 1 + 1]? = some (.cells (worldV cb w4.heap.size (w4.heap.size + 1) c tk0 (-1)).toArray 42 (0, 0)) ∧ w.heap.size ≤ w4.heap.size + 1 + 1 ∧ Own w W cb (CS.init [(2, v)]) ∧
    W.heap[w4.heap.size]? = some (.cells #[.slice none 0 0, .int .i64 0] 157 (0, 0)) ∧ w.heap.size ≤ w4.heap.size ∧ W.heap[w4.heap.size + 1]? = some (.cells #[.slice none 0 0] 197 (0, 0)) ∧ w.heap.size ≤ w4.heap.size + 1 := by
  have hs : w3.heap.size ≤ w4.heap.size := g2.size
  have e1 := heap_alloc_new w4 (.cells #[.slice none 0 0, .int .i64 0] 157)
  have e2 := heap_alloc_new (w4.alloc (.cells #[.slice none 0 0, .int .i64 0] 157)) (.cells #[.slice none 0 0] 197)
  have e3 := heap_alloc_new ((w4.alloc (.cells #[.slice none 0 0, .int .i64 0] 157)).alloc (.cells #[.slice none 0 0] 197)) (.cells (newCells cb w4.heap.size (w4.heap.size + 1) c) 42)
  have s1 : (w4.alloc (.cells #[.slice none 0 0, .int .i64 0] 157)).heap.size = w4.heap.size + 1 := by simp
  have s2 : ((w4.alloc (.cells #[.slice none 0 0, .int .i64 0] 157)).alloc (.cells #[.slice none 0 0] 197)).heap.size = w4.heap.size + 1 + 1 := by simp
  rw [s1] at e2
  rw [s2] at e3
  refine ⟨by rw [← new_cells]; exact e3, by omega, ?_, ?_, by omega, ?_, by omega⟩
  · exact g1.keep ((((Below.refl _ _).alloc (Nat.le_refl _) _).alloc (by simp) _).alloc (by simp; omega) _)
  · rw [Below.heap_alloc _ _ _ (by rw [s2]; omega), Below.heap_alloc _ _ _ (by rw [s1]; omega)]; exact e1
  · rw [Below.heap_alloc _ _ _ (by rw [s2]; omega)]; exact e2

set_option maxRecDepth 10000 in
set_option maxHeartbeats 2000000 in
theorem wnew_ok (c : Conf) (hc : c.ok = true) (w : World) : Calls Try.prog 8 #[.agg #[.int .i64 c.bits, .int .i64 c.budget, .int .i64 c.tries, .int .i64 c.quantum, .int .i64 c.way]] w fun e w' => ∃ wb cb ib nb, e = .returned (.tuple #[.pointer (some ⟨wb, 0, none⟩), .int .i64 0]) ∧
    w'.heap[wb]? = some (.cells (worldV cb ib nb c tk0 (-1)).toArray 42 (0, 0)) ∧ w.heap.size ≤ wb ∧ Own w w' cb (CS.init [(2, tword c.bits 0)]) ∧
    w'.heap[ib]? = some (.cells #[.slice none 0 0, .int .i64 0] 157 (0, 0)) ∧ w.heap.size ≤ ib ∧ w'.heap[nb]? = some (.cells #[.slice none 0 0] 197 (0, 0)) ∧ w.heap.size ≤ nb := by
  go_enter Try.func8, Try.ntmps8
  go_wp2_with (first
    | (go_at_call 11; refine (wmay_any c _).mono ?_; rw [hc]; rintro e w1 ⟨rfl, h1⟩; have b1 := h1.cell (p := ⟨w.heap.size, 0, none⟩) (by simp); have hbs := h1.size)
    | (go_at_call 51; refine (word_any _ _ _).mono ?_; rintro e w2 ⟨rfl, rfl⟩))
  have hq0 := heap_alloc_new w (.cells #[.int .i64 c.bits, .int .i64 c.budget, .int .i64 c.tries, .int .i64 c.quantum, .int .i64 c.way] 23)
  obtain ⟨hq2, -⟩ := box5 hq0 h1
  have hB2 : Below w.heap.size w w2 := ((Below.refl _ w).alloc (Nat.le_refl _) _).trans (h1.mono (by simp))
  have hB3 : Below w.heap.size w (w2.alloc (.cells #[.int .u64 2, .int .u64 (tword c.bits 0)] 121)) := hB2.alloc hB2.size _
  obtain ⟨hq3, x0, x1, x2, x3, x4⟩ := box5 hq2 ((Below.refl w2.heap.size w2).alloc (Nat.le_refl _) (.cells #[.int .u64 2, .int .u64 (tword c.bits 0)] 121))
  have hy := heap_alloc_new w2 (.cells #[.int .u64 2, .int .u64 (tword c.bits 0)] 121)
  clear h1 hq0 hq2 hB2 b1 hbs
  generalize w2.alloc (.cells #[.int .u64 2, .int .u64 (tword c.bits 0)] 121) = w3 at *
  have y0 : w3.cell? ⟨w2.heap.size, 0, none⟩ = some (.int .u64 2) := by simp [World.cell?, hy]
  have y1 : w3.cell? ⟨w2.heap.size, 1, none⟩ = some (.int .u64 (tword c.bits 0)) := by simp [World.cell?, hy]
  have l1 : w.heap.size < w3.heap.size := (Array.getElem?_eq_some_iff.1 hq3).1
  have hn := new_first w3.drew (w0 := w) (hB3.trans ⟨rfl, rfl, rfl, Nat.le_refl _, fun _ _ => rfl⟩) 2 (tword c.bits 0) (by decide) (tword_wf _ _)
  have HQ := Lib.hid hq3; have HB := Lib.hid hB3
  clear hq3 hy hB3
  go_region_with (first
    | (go_at_call 52; refine hn.mono ?_; rintro e w4 ⟨cb, rfl, g1, g2⟩; have g3 := g2.size; have l2 : w.heap.size < w4.heap.size := Nat.lt_of_lt_of_le l1 g3; obtain ⟨hq4, z0, z1, z2, z3, z4⟩ := box5 (w := w3.drew) HQ.out g2; clear x0 x1 x2 x3 x4; have HQ4 := Lib.hid hq4; have G1 := Lib.hid g1; have G2 := Lib.hid g2; clear hq4 g1 g2)
    | (go_at_call 53; refine (items_new _).mono ?_; rintro e w5 ⟨rfl, rfl⟩)
    | (go_at_call 54; refine (notes_new _).mono ?_; rintro e w6 ⟨rfl, rfl⟩))
  all_goals (try go_wp2)
  all_goals (go_ret2)
  all_goals (exact ⟨_, cb, _, _, rfl, new_fin HB.out G1.out G2.out l1 c⟩)
end Go.Proofs.Yteofdldlmmkgbaa

/-
  A world: its cells and its config; Full, Grows, Steps.
-/
namespace Go.Proofs.Yteofdldlmmkgbaa
open Go.RowKit Go.Maps
set_option linter.unusedVariables false

/-- A world that was made since w0: its cells, its config; whatever else it has. -/
structure Wld (w0 w : World) (wb cb : Nat) (c : Conf) (s : CS) : Prop where
  own : Own w0 w cb s
  blk : ∃ ib nb tk h, w.heap[wb]? = some (.cells (worldV cb ib nb c tk h).toArray 42 (0, 0))
theorem Wld.keep {w0 w w1 : World} {wb cb : Nat} {c : Conf} {s : CS} (h : Wld w0 w wb cb c s) (h2 : Below w.heap.size w w1) : Wld w0 w1 wb cb c s := by
  obtain ⟨ib, nb, tk, hh, hb⟩ := h.blk
  exact ⟨h.own.keep h2, ib, nb, tk, hh, below_rest h2 _ _ _ _ hb rfl rfl⟩
theorem Wld.acc {w0 w w1 : World} {wb cb : Nat} {c : Conf} {s s' : CS} (h : Wld w0 w wb cb c s) (h1 : Own w0 w1 cb s') (h2 : Rest w w1) : Wld w0 w1 wb cb c s' := by
  obtain ⟨ib, nb, tk, hh, hb⟩ := h.blk
  exact ⟨h1, ib, nb, tk, hh, h2 _ _ _ _ hb rfl rfl⟩
theorem Wld.cell {w0 w : World} {wb cb : Nat} {c : Conf} {s : CS} (h : Wld w0 w wb cb c s) : w.cell? ⟨wb, 0, none⟩ = some (.pointer (some ⟨cb, 0, none⟩)) ∧ w.cell? ⟨wb, 3, none⟩ = some (.int .i64 c.bits) ∧ w.cell? ⟨wb, 4, none⟩ = some (.int .i64 c.budget) := by
  obtain ⟨ib, nb, tk, hh, hb⟩ := h.blk
  have k : ∀ o, w.cell? ⟨wb, o, none⟩ = (worldV cb ib nb c tk hh).toArray[o]? := fun o => by unfold World.cell?; simp only; rw [hb]; rfl
  rw [k, k, k]
  simp [worldV, Conf.cells]

theorem steps_any {w0 w : World} {wb cb : Nat} {c : Conf} {s : CS} (h : Wld w0 w wb cb c s) : Calls Try.prog 20 #[.pointer (some ⟨wb, 0, none⟩)] w fun e w' => e = .returned (.int .i64 s.cnt) ∧ w' = w := by
  obtain ⟨c0, -, -⟩ := h.cell
  have hk := count_own h.own
  clear h
  go_enter Try.func20, Try.ntmps20
  go_wp2_with (go_at_call 68; refine hk.mono ?_; rintro e w' ⟨rfl, rfl⟩)
  go_ret
  exact ⟨rfl, rfl⟩
theorem full_any {w0 w : World} {wb cb : Nat} {c : Conf} {s : CS} (h : Wld w0 w wb cb c s) (hb : 1 ≤ c.budget ∧ c.budget ≤ 65536) : Calls Try.prog 17 #[.pointer (some ⟨wb, 0, none⟩)] w fun e w' => e = .returned (.bool (decide (c.budget ≤ s.val 6))) ∧ Below w.heap.size w w' := by
  have hmf : ∀ (fn : Fn) (first cap : Array Value) (w : World), (Instr.makeFunc fn first cap).run Try.prog w = .ok (.func fn first cap) w := fun _ _ _ _ => rfl
  have hbw : IntKind.u64.wrap c.budget = c.budget := by rw [IntKind.wrap_u64]; omega
  have hb0 : ¬ c.budget < 0 := by omega
  obtain ⟨c0, c3, c4⟩ := h.cell
  have x4 := fun st : ExtW w => st.cell c4
  have hk : ∀ st : ExtW w, Calls Try.prog 27 #[.pointer (some ⟨cb, 0, none⟩), .int .u64 6] st.val fun e w' => e = .returned (.int .u64 (s.val 6)) ∧ st.val = w' := fun st => (peek_own (h.own.keep st.below) 6 (by decide)).mono fun e w' ⟨he, hw⟩ => ⟨he, hw.symm⟩
  clear h
  go_enter Try.func17, Try.ntmps17
  go_wp2_with fail
  refine wp_region_ext (by kernel_rfl) (by kernel_rfl) ?_
  repeat (go_big_quiet_step ((go_at_call 27; with_reducible refine calls_ext_same (hk _))))
  refine wpQuiet_nil ?_
  rintro W ⟨⟨W2, hW⟩, rfl⟩
  clear x4 hk
  go_wp2
  go_ret
  exact ⟨rfl, hW⟩

theorem pmay_ext (a b d : Int) (hd : 0 ≤ d ∧ d < 256) (hg : (Lit.int .i64 b).wf = true) {w : World} (st : ExtW w) : Calls Try.prog 61 #[.int .i64 a, .int .i64 b, .int .i64 d] st.val fun e w' => e = .returned (.bool (pmay a b d)) ∧ st.val = w' :=
  (pmay_any a b d hd hg st.val).mono fun e w' ⟨he, hw⟩ => ⟨he, hw.symm⟩
theorem grows_any {w0 w : World} {wb cb : Nat} {c : Conf} {s : CS} (h : Wld w0 w wb cb c s) (hg : (Lit.int .i64 c.budget).wf = true) : Calls Try.prog 15 #[.pointer (some ⟨wb, 0, none⟩)] w fun e w' => e = .returned (.bool (asNow (s.val 2) == 0 && pmay c.bits c.budget (asOld (s.val 2)))) ∧ Below w.heap.size w w' := by
  have hmf : ∀ (fn : Fn) (first cap : Array Value) (w : World), (Instr.makeFunc fn first cap).run Try.prog w = .ok (.func fn first cap) w := fun _ _ _ _ => rfl
  obtain ⟨c0, c3, c4⟩ := h.cell
  have x3 := fun st : ExtW w => st.cell c3
  have x4 := fun st : ExtW w => st.cell c4
  have hk := peek_own h.own 2 (by decide)
  have ha := as_any (s.val 2) (h.own.wf 2) w
  have hr := as_range (s.val 2)
  generalize asNow (s.val 2) = n at *
  generalize asOld (s.val 2) = o at *
  have hm := fun st : ExtW w => pmay_ext c.bits c.budget o ⟨hr.1, hr.2.1⟩ hg st
  clear h hg hr
  cases hn : (n == 0)
  · go_enter Try.func15, Try.ntmps15
    go_wp2_with (first | (go_at_call 27; refine hk.mono ?_; rintro e w' ⟨rfl, rfl⟩) | (go_at_call 60; refine ha.mono ?_; rintro e w' ⟨rfl, rfl⟩))
    refine wp_region_ext (by kernel_rfl) (by kernel_rfl) ?_
    repeat (go_big_quiet_step ((go_at_call 61; with_reducible refine calls_ext_same (hm _))))
    refine wpQuiet_nil ?_
    rintro W ⟨⟨W2, hW⟩, rfl⟩
    clear x3 x4 hm
    go_wp2
    go_ret
    exact ⟨rfl, hW⟩
  · go_enter Try.func15, Try.ntmps15
    go_wp2_with (first | (go_at_call 27; refine hk.mono ?_; rintro e w' ⟨rfl, rfl⟩) | (go_at_call 60; refine ha.mono ?_; rintro e w' ⟨rfl, rfl⟩))
    refine wp_region_ext (by kernel_rfl) (by kernel_rfl) ?_
    repeat (go_big_quiet_step ((go_at_call 61; with_reducible refine calls_ext_same (hm _))))
    refine wpQuiet_nil ?_
    rintro W ⟨⟨W2, hW⟩, rfl⟩
    clear x3 x4 hm
    go_wp2
    go_ret
    exact ⟨rfl, hW⟩
end Go.Proofs.Yteofdldlmmkgbaa
