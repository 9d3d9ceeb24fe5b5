/-
  Cells that a call itself made: what each access leaves, from the call's beginning on.
-/
import Derived.Test.YtmakjfeepmiggaaGreatCellsNew
import Derived.Test.YtmakjfeepmiggaaGreatCellsWords0
namespace Go.Proofs.YtmakjfeepmiggaaGreat
open Go.RowKit Go.Maps
set_option linter.unusedVariables false

/-- From w0 on, cells at block b were made; of what was in w0 nothing has turned. -/
structure Own (w0 w : World) (b : Nat) (s : CS) : Prop where
  cells : ∃ S, Cells w w0.heap.size b s S
  below : Below w0.heap.size w0 w
theorem Own.new {w0 w w1 : World} {b : Nat} {s : CS} {S : Nat → Prop} (hB : Below w0.heap.size w0 w) (h : Cells w1 w.heap.size b s S) (h2 : Below w.heap.size w w1) : Own w0 w1 b s := by
  refine ⟨⟨S, ?_⟩, hB.trans (h2.mono hB.size)⟩
  obtain ⟨mo, f, h, rfl⟩ := h
  have hs := hB.size
  exact ⟨mo, f, ⟨h.hdr, Nat.le_trans hs h.lo, fun m hm => ⟨(h.map m hm).1, Nat.le_trans hs (h.map m hm).2.1, (h.map m hm).2.2⟩, h.nomap, fun a p hp => ⟨(h.ptr a p hp).1, Nat.le_trans hs (h.ptr a p hp).2.1, (h.ptr a p hp).2.2⟩, h.zero, h.inj, h.wf⟩, rfl⟩
theorem Own.keep {w0 w w1 : World} {b : Nat} {s : CS} (h : Own w0 w b s) (h2 : Below w.heap.size w w1) : Own w0 w1 b s := by
  obtain ⟨⟨S, hS⟩, hB⟩ := h
  exact ⟨⟨S, hS.below h2⟩, hB.trans (h2.mono hB.size)⟩
theorem Own.acc {w0 w w1 : World} {b : Nat} {s s' : CS} {S : Nat → Prop} (hS : Cells w w0.heap.size b s S) (hB : Below w0.heap.size w0 w) (h : Acc w w0.heap.size b s' S w1) : Own w0 w1 b s' := by
  obtain ⟨S', h1, h2, h3⟩ := h
  exact ⟨⟨S', h1⟩, keeps_below h2 hB hB.size fun k hk => (hS.fp k hk).1⟩
theorem Own.wf {w0 w : World} {b : Nat} {s : CS} (h : Own w0 w b s) (a : Int) : (Lit.int .u64 (s.val a)).wf = true := by
  obtain ⟨⟨S, mo, f, h, _⟩, _⟩ := h; exact h.wf a
/-- What is no cells' header and no word of cells stays as it was. -/
def Rest (w w' : World) : Prop := ∀ (k : Nat) (cs : Array Value) (T : TypeId) (fr : Nat × Nat), w.heap[k]? = some (Obj.cells cs T fr) → (T == 239) = false → (T == 294) = false → w'.heap[k]? = some (Obj.cells cs T fr)
theorem Acc.rest {w w' : World} {base b : Nat} {s s' : CS} {S : Nat → Prop} (hS : Cells w base b s S) (h : Acc w base b s' S w') : Rest w w' := by
  intro k cs T fr hk h1 h2
  obtain ⟨S', _, hK, _⟩ := h
  rw [hK.block k (Array.getElem?_eq_some_iff.1 hk).1 (fun c => ?_)]; exact hk
  obtain ⟨mo, f, hA, rfl⟩ := hS
  rcases c with rfl | hm | ⟨a, ha⟩
  · have := hA.hdr.symm.trans hk; simp only [Option.some.injEq, Obj.cells.injEq] at this; rw [← this.2.1] at h1; simp at h1
  · obtain ⟨⟨D, ⟨es, cl, hb, _⟩, _⟩, _⟩ := hA.map k hm
    have := hb.symm.trans hk; cases this
  · have := (hA.ptr a k ha).1.symm.trans hk; simp only [wordC, Option.some.injEq, Obj.cells.injEq] at this; rw [← this.2.1] at h2; simp at h2
theorem below_rest {w w' : World} (h : Below w.heap.size w w') : Rest w w' := fun k cs T fr hk _ _ => (h.block k (Array.getElem?_eq_some_iff.1 hk).1).trans hk
/-- There is room for more accesses. -/
def CS.room (s : CS) : Prop := s.n < lim ∧ s.cnt < lim

section
variable {w0 w : World} {b : Nat} {s : CS} (h : Own w0 w b s) (hr : s.room) (a : Int) (ha : (Lit.int .u64 a).wf = true)
include h hr ha
theorem load_own : Calls Tryz.prog 62 #[.pointer (some ⟨b, 0, none⟩), .int .u64 a] w fun e w' => e = .returned (.int .u64 (s.val a)) ∧ Own w0 w' b (s.acc 1 a (s.val a)) := by
  obtain ⟨⟨S, hS⟩, hB⟩ := h
  exact (load_any w _ b s S hS a ha hr.1 hr.2 hB.size).mono fun e w' ⟨he, hA⟩ => ⟨he, Own.acc hS hB hA⟩
theorem store_own (v : Int) (hv : (Lit.int .u64 v).wf = true) : Calls Tryz.prog 41 #[.pointer (some ⟨b, 0, none⟩), .int .u64 a, .int .u64 v] w fun e w' => e = .returned (.int .u64 (s.val a)) ∧ Own w0 w' b (s.acc 2 a v) := by
  obtain ⟨⟨S, hS⟩, hB⟩ := h
  exact (store_any w _ b s S hS a v ha hv hr.1 hr.2 hB.size).mono fun e w' ⟨he, hA⟩ => ⟨he, Own.acc hS hB hA⟩
theorem add_own (v : Int) : Calls Tryz.prog 282 #[.pointer (some ⟨b, 0, none⟩), .int .u64 a, .int .u64 v] w fun e w' => e = .returned (.int .u64 (s.val a)) ∧ Own w0 w' b (s.acc 4 a (wu (s.val a + v))) := by
  obtain ⟨⟨S, hS⟩, hB⟩ := h
  exact (add_any w _ b s S hS a v ha hr.1 hr.2 hB.size).mono fun e w' ⟨he, hA⟩ => ⟨he, Own.acc hS hB hA⟩
theorem cas_own (x y : Int) (hy : (Lit.int .u64 y).wf = true) : Calls Tryz.prog 159 #[.pointer (some ⟨b, 0, none⟩), .int .u64 a, .int .u64 x, .int .u64 y] w fun e w' => e = .returned (.tuple #[.int .u64 (s.val a), .bool (s.val a == x)]) ∧
    Own w0 w' b (s.acc 3 a (if s.val a = x then y else s.val a)) := by
  obtain ⟨⟨S, hS⟩, hB⟩ := h
  exact (cas_any w _ b s S hS a x y ha hy hr.1 hr.2 hB.size).mono fun e w' ⟨he, hA⟩ => ⟨he, Own.acc hS hB hA⟩
omit hr in
theorem peek_own : Calls Tryz.prog 142 #[.pointer (some ⟨b, 0, none⟩), .int .u64 a] w fun e w' => e = .returned (.int .u64 (s.val a)) ∧ w' = w := by
  obtain ⟨⟨S, hS⟩, hB⟩ := h
  exact peek_any w _ b s S hS a ha
omit hr ha in
theorem count_own : Calls Tryz.prog 139 #[.pointer (some ⟨b, 0, none⟩)] w fun e w' => e = .returned (.int .i64 s.cnt) ∧ w' = w := by
  obtain ⟨⟨S, hS⟩, hB⟩ := h
  exact count_any w _ b s S hS
omit hr ha in
theorem last_own : Calls Tryz.prog 69 #[.pointer (some ⟨b, 0, none⟩)] w fun e w' => e = .returned (accV s.kind s.addr s.was s.is) ∧ Own w0 w' b s := by
  have h0 := h
  obtain ⟨⟨S, hS⟩, hB⟩ := h
  exact (last_any w _ b s S hS).mono fun e w' ⟨he, hA⟩ => ⟨he, h0.keep hA⟩
omit hr ha in
theorem words0_own (hz : ∀ a, s.val a = 0) : Calls Tryz.prog 141 #[.pointer (some ⟨b, 0, none⟩)] w fun e w' => e = .returned (.slice none 0 0) ∧ Own w0 w' b s := by
  have h0 := h
  obtain ⟨⟨S, hS⟩, hB⟩ := h
  exact (words_zero w _ b s S hS hz).mono fun e w' ⟨he, hA⟩ => ⟨he, h0.keep hA⟩
end
theorem new_own {w0 w : World} (hB : Below w0.heap.size w0 w) : Calls Tryz.prog 126 #[.slice none 0 0] w fun e w' => ∃ b, e = .returned (.pointer (some ⟨b, 0, none⟩)) ∧ Own w0 w' b CS.zero :=
  (new_nil w).mono fun e w' ⟨b, S, he, h1, h2⟩ => ⟨b, he, Own.new hB h1 h2⟩

theorem upd_upd {α : Type} (f : Int → α) (a : Int) (x y : α) : upd (upd f a x) a y = upd f a y := by
  funext k; unfold upd; split <;> rfl
theorem upd_id {α : Type} (f : Int → α) (a : Int) : upd f a (f a) = f := by
  funext k; unfold upd; split
  · rename_i h; rw [h]
  · rfl

/-- Cells of which one address alone was spoken of: v stands there; c accesses. -/
def One (w0 w : World) (b : Nat) (a v : Int) (c : Nat) : Prop := ∃ s, Own w0 w b s ∧ s.val a = v ∧ (∀ x, x ≠ a → s.val x = 0) ∧ s.cnt = c ∧ s.n = c
theorem One.new {w0 w : World} (a : Int) (hB : Below w0.heap.size w0 w) : Calls Tryz.prog 126 #[.slice none 0 0] w fun e w' => ∃ b, e = .returned (.pointer (some ⟨b, 0, none⟩)) ∧ One w0 w' b a 0 0 :=
  (new_own hB).mono fun e w' ⟨b, he, h⟩ => ⟨b, he, CS.zero, h, rfl, fun _ _ => rfl, rfl, rfl⟩
theorem One.of {w0 w' : World} {b : Nat} {s : CS} {a : Int} {c : Nat} (k i : Int) (h : Own w0 w' b (s.acc k a i)) (h1 : ∀ x, x ≠ a → s.val x = 0) (h2 : s.cnt = c) (h3 : s.n = c) : One w0 w' b a i (c + 1) :=
  ⟨_, h, upd_same _ _ _, fun x hx => (upd_other _ hx _).trans (h1 x hx), by simp [CS.acc, h2], by simp [CS.acc, h3]⟩
section
variable {w0 w : World} {b : Nat} {a v : Int} {c : Nat} (h : One w0 w b a v c) (ha : (Lit.int .u64 a).wf = true) (hc : c < 1000)
include h ha hc
theorem One.load : Calls Tryz.prog 62 #[.pointer (some ⟨b, 0, none⟩), .int .u64 a] w fun e w' => e = .returned (.int .u64 v) ∧ One w0 w' b a v (c + 1) := by
  obtain ⟨s, h, h1, h2, h3, h4⟩ := h
  subst h1
  exact (load_own h (by unfold CS.room lim; omega) a ha).mono fun e w' ⟨he, hA⟩ => ⟨he, One.of _ _ hA h2 h3 h4⟩
theorem One.store (x : Int) (hx : (Lit.int .u64 x).wf = true) : Calls Tryz.prog 41 #[.pointer (some ⟨b, 0, none⟩), .int .u64 a, .int .u64 x] w fun e w' => e = .returned (.int .u64 v) ∧ One w0 w' b a x (c + 1) := by
  obtain ⟨s, h, h1, h2, h3, h4⟩ := h
  subst h1
  exact (store_own h (by unfold CS.room lim; omega) a ha x hx).mono fun e w' ⟨he, hA⟩ => ⟨he, One.of _ _ hA h2 h3 h4⟩
theorem One.add (x : Int) : Calls Tryz.prog 282 #[.pointer (some ⟨b, 0, none⟩), .int .u64 a, .int .u64 x] w fun e w' => e = .returned (.int .u64 v) ∧ One w0 w' b a (wu (v + x)) (c + 1) := by
  obtain ⟨s, h, h1, h2, h3, h4⟩ := h
  subst h1
  exact (add_own h (by unfold CS.room lim; omega) a ha x).mono fun e w' ⟨he, hA⟩ => ⟨he, One.of _ _ hA h2 h3 h4⟩
theorem One.cas (y : Int) (hy : (Lit.int .u64 y).wf = true) : Calls Tryz.prog 159 #[.pointer (some ⟨b, 0, none⟩), .int .u64 a, .int .u64 v, .int .u64 y] w fun e w' => e = .returned (.tuple #[.int .u64 v, .bool true]) ∧ One w0 w' b a y (c + 1) := by
  obtain ⟨s, h, h1, h2, h3, h4⟩ := h
  subst h1
  refine (cas_own h (by unfold CS.room lim; omega) a ha (s.val a) y hy).mono fun e w' ⟨he, hA⟩ => ?_
  simp only [beq_self_eq_true, if_true] at he hA
  exact ⟨he, One.of _ _ hA h2 h3 h4⟩
theorem One.cas_not (x y : Int) (hx : v ≠ x) (hy : (Lit.int .u64 y).wf = true) : Calls Tryz.prog 159 #[.pointer (some ⟨b, 0, none⟩), .int .u64 a, .int .u64 x, .int .u64 y] w fun e w' => e = .returned (.tuple #[.int .u64 v, .bool false]) ∧ One w0 w' b a v (c + 1) := by
  obtain ⟨s, h, h1, h2, h3, h4⟩ := h
  subst h1
  refine (cas_own h (by unfold CS.room lim; omega) a ha x y hy).mono fun e w' ⟨he, hA⟩ => ?_
  simp only [beq_eq_false_iff_ne.2 hx, if_neg hx] at he hA
  exact ⟨he, One.of _ _ hA h2 h3 h4⟩
omit hc in
theorem One.peek : Calls Tryz.prog 142 #[.pointer (some ⟨b, 0, none⟩), .int .u64 a] w fun e w' => e = .returned (.int .u64 v) ∧ w' = w := by
  obtain ⟨s, h, h1, h2, h3, h4⟩ := h
  subst h1
  exact peek_own h a ha
omit hc ha in
theorem One.count : Calls Tryz.prog 139 #[.pointer (some ⟨b, 0, none⟩)] w fun e w' => e = .returned (.int .i64 c) ∧ w' = w := by
  obtain ⟨s, h, h1, h2, h3, h4⟩ := h
  subst h3
  exact count_own h
omit hc ha in
theorem One.words0 (hv : v = 0) : Calls Tryz.prog 141 #[.pointer (some ⟨b, 0, none⟩)] w fun e w' => e = .returned (.slice none 0 0) ∧ One w0 w' b a v c := by
  obtain ⟨s, h, h1, h2, h3, h4⟩ := h
  refine (words0_own h (fun x => ?_)).mono fun e w' ⟨he, hA⟩ => ⟨he, s, hA, h1, h2, h3, h4⟩
  by_cases hx : x = a
  · rw [hx, h1, hv]
  · exact h2 x hx
omit hc ha in
theorem One.below : Below w0.heap.size w0 w := by obtain ⟨s, h, _⟩ := h; exact h.below
end

theorem One.keep {w0 w w1 : World} {b : Nat} {a v : Int} {c : Nat} (h : One w0 w b a v c) (h2 : Below w.heap.size w w1) : One w0 w1 b a v c := by
  obtain ⟨s, h, r⟩ := h
  exact ⟨s, h.keep h2, r⟩

end Go.Proofs.YtmakjfeepmiggaaGreat
