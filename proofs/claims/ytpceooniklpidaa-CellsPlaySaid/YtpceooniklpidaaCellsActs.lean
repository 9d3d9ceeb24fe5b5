/-
  A list of accesses that came in.
-/
import Derived.Test.YtpceooniklpidaaCellsOwn
import Derived.Test.YtpceooniklpidaaOpen
namespace Go.Proofs.Ytpceooniklpidaa
open Go.RowKit Go.Maps
set_option linter.unusedVariables false

structure Ac where
  k : Int
  a : Int
  v : Int
  i : Int
def Ac.cells (x : Ac) : List Value := [.int .u8 x.k, .int .u64 x.a, .int .u64 x.v, .int .u64 x.i]
structure Ac.wf (x : Ac) : Prop where
  k : (Lit.int .u8 x.k).wf = true
  a : (Lit.int .u64 x.a).wf = true
  v : (Lit.int .u64 x.v).wf = true
  i : (Lit.int .u64 x.i).wf = true
def acLeaves : List Leaf := [.int .u8, .int .u64, .int .u64, .int .u64]
theorem ac_of {w : World} {cs : List Value} (h : Leaf.allHold w acLeaves cs) : ∃ x : Ac, cs = x.cells ∧ x.wf := by
  obtain ⟨c0, r, rfl, g0, h⟩ := allHold_cons h
  obtain ⟨c1, r, rfl, g1, h⟩ := allHold_cons h
  obtain ⟨c2, r, rfl, g2, h⟩ := allHold_cons h
  obtain ⟨c3, r, rfl, g3, h⟩ := allHold_cons h
  obtain rfl := allHold_nil h
  obtain ⟨n0, rfl, w0⟩ := holds_int g0
  obtain ⟨n1, rfl, w1⟩ := holds_int g1
  obtain ⟨n2, rfl, w2⟩ := holds_int g2
  obtain ⟨n3, rfl, w3⟩ := holds_int g3
  exact ⟨⟨n0, n1, n2, n3⟩, rfl, w0, w1, w2, w3⟩
/-- Accesses that may be read. -/
structure Acts (w : World) (a : Option Addr) (cap : Nat) (l : List Ac) : Prop where
  le : l.length ≤ cap
  most : cap ≤ maxLen
  nil : a = none → cap = 0
  wf : ∀ x ∈ l, x.wf
  cell : l = [] ∨ ∃ b off, a = some ⟨b, off, none⟩ ∧ ∀ i, (hi : i < l.length) → ∀ j, j < 4 → w.cell? ⟨b, off + (i * 4 + j), none⟩ = (l[i]).cells[j]?
theorem acts_of {w : World} {a : Option Addr} {n cap : Nat} (h : Leaf.holds w (.sl acLeaves) (.slice a n cap)) : ∃ l, l.length = n ∧ Acts w a cap l := by
  obtain ⟨l, a', cap', hv, h1, h2, h3, h4, h5⟩ := recs_of h
  simp only [Value.slice.injEq] at hv
  obtain ⟨rfl, rfl, rfl⟩ := hv
  obtain ⟨m, hm, hp⟩ := list_of (fun i (x : Ac) => l[i]? = some x.cells ∧ x.wf) l.length (fun i hi => by
    obtain ⟨x, hx, hw⟩ := ac_of (h4 _ (List.getElem_mem hi))
    exact ⟨x, by rw [List.getElem?_eq_getElem hi, hx], hw⟩)
  refine ⟨m, hm, by omega, h2, h3, fun x hx => ?_, ?_⟩
  · obtain ⟨i, hi, rfl⟩ := List.mem_iff_getElem.1 hx
    exact (hp i hi).2
  · rcases h5 with rfl | ⟨b, off, rfl, h5⟩
    · left; simpa using hm
    · refine .inr ⟨b, off, rfl, fun i hi j hj => ?_⟩
      have h6 := h5 i (by omega) j hj
      have h7 := (hp i hi).1
      rw [List.getElem?_eq_getElem (by omega)] at h7
      simp only [Option.some.injEq] at h7
      rw [h7] at h6
      exact h6
theorem Acts.at {w : World} {a : Option Addr} {cap : Nat} {l : List Ac} (h : Acts w a cap l) (i : Nat) (hi : i < l.length) :
    ∃ b off x, a = some ⟨b, off, none⟩ ∧ l[i]? = some x ∧ x.wf ∧ w.cell? ⟨b, off + i * 4, none⟩ = some (.int .u8 x.k) ∧ w.cell? ⟨b, off + i * 4 + 1, none⟩ = some (.int .u64 x.a) ∧ w.cell? ⟨b, off + i * 4 + 2, none⟩ = some (.int .u64 x.v) ∧
    w.cell? ⟨b, off + i * 4 + 3, none⟩ = some (.int .u64 x.i) := by
  rcases h.cell with rfl | ⟨b, off, rfl, h5⟩
  · simp at hi
  · have h6 := h5 i hi
    refine ⟨b, off, l[i], rfl, List.getElem?_eq_getElem hi, h.wf _ (List.getElem_mem hi), h6 0 (by omega), ?_, ?_, ?_⟩
    · rw [Nat.add_assoc]; exact h6 1 (by omega)
    · rw [Nat.add_assoc]; exact h6 2 (by omega)
    · rw [Nat.add_assoc]; exact h6 3 (by omega)

/-- What an access at address a leaves, whatever its kind. -/
structure Goes (s : CS) (a : Int) (s' : CS) : Prop where
  addr : s'.addr = a
  was : s'.was = s.val a
  is : s'.is = s'.val a
  far : ∀ x, x ≠ a → s'.val x = s.val x
  cnt : s'.cnt = s.cnt + 1
  n : s'.n = s.n + 1
theorem goes_acc (s : CS) (k a i : Int) : Goes s a (s.acc k a i) := ⟨rfl, rfl, (upd_same _ _ _).symm, fun x hx => upd_other _ hx _, rfl, rfl⟩
/-- .. and what it tells. -/
def Told (w0 : World) (b : Nat) (s : CS) (a : Int) (w w' : World) : Prop := (∃ s', Own w0 w' b s' ∧ Goes s a s') ∧ Rest w w'
theorem told_acc {w0 w w' : World} {b : Nat} {s : CS} {S : Nat → Prop} (hS : Cells w w0.heap.size b s S) (hB : Below w0.heap.size w0 w) {k a i : Int} (h : Acc w w0.heap.size b (s.acc k a i) S w') : Told w0 b s a w w' :=
  ⟨⟨_, Own.acc hS hB h, goes_acc _ _ _ _⟩, h.rest hS⟩

section
variable {w0 w : World} {b : Nat} {s : CS} (h : Own w0 w b s) (hr : s.room) (a : Int) (ha : (Lit.int .u64 a).wf = true)
include h hr ha
theorem load_told : Calls Try.prog 94 #[.pointer (some ⟨b, 0, none⟩), .int .u64 a] w fun e w' => e = .returned (.int .u64 (s.val a)) ∧ Told w0 b s a w w' := by
  obtain ⟨⟨S, hS⟩, hB⟩ := h
  exact (load_any w _ b s S hS a ha hr.1 hr.2 hB.size).mono fun e w' ⟨he, hA⟩ => ⟨he, told_acc hS hB hA⟩
theorem store_told (v : Int) (hv : (Lit.int .u64 v).wf = true) : Calls Try.prog 33 #[.pointer (some ⟨b, 0, none⟩), .int .u64 a, .int .u64 v] w fun e w' => e = .returned (.int .u64 (s.val a)) ∧ Told w0 b s a w w' := by
  obtain ⟨⟨S, hS⟩, hB⟩ := h
  exact (store_any w _ b s S hS a v ha hv hr.1 hr.2 hB.size).mono fun e w' ⟨he, hA⟩ => ⟨he, told_acc hS hB hA⟩
theorem swap_told (v : Int) (hv : (Lit.int .u64 v).wf = true) : Calls Try.prog 95 #[.pointer (some ⟨b, 0, none⟩), .int .u64 a, .int .u64 v] w fun e w' => e = .returned (.int .u64 (s.val a)) ∧ Told w0 b s a w w' := by
  obtain ⟨⟨S, hS⟩, hB⟩ := h
  exact (swap_any w _ b s S hS a v ha hv hr.1 hr.2 hB.size).mono fun e w' ⟨he, hA⟩ => ⟨he, told_acc hS hB hA⟩
theorem add_told (v : Int) : Calls Try.prog 38 #[.pointer (some ⟨b, 0, none⟩), .int .u64 a, .int .u64 v] w fun e w' => e = .returned (.int .u64 (s.val a)) ∧ Told w0 b s a w w' := by
  obtain ⟨⟨S, hS⟩, hB⟩ := h
  exact (add_any w _ b s S hS a v ha hr.1 hr.2 hB.size).mono fun e w' ⟨he, hA⟩ => ⟨he, told_acc hS hB hA⟩
theorem cas_told (x y : Int) (hy : (Lit.int .u64 y).wf = true) : Calls Try.prog 92 #[.pointer (some ⟨b, 0, none⟩), .int .u64 a, .int .u64 x, .int .u64 y] w fun e w' => (∃ dn : Bool, e = .returned (.tuple #[.int .u64 (s.val a), .bool dn])) ∧ Told w0 b s a w w' := by
  obtain ⟨⟨S, hS⟩, hB⟩ := h
  exact (cas_any w _ b s S hS a x y ha hy hr.1 hr.2 hB.size).mono fun e w' ⟨he, hA⟩ => ⟨⟨_, he⟩, told_acc hS hB hA⟩
end
theorem last_goes {w0 w : World} {b : Nat} {s s' : CS} {a : Int} (h : Own w0 w b s') (hg : Goes s a s') : Calls Try.prog 35 #[.pointer (some ⟨b, 0, none⟩)] w fun e w' => e = .returned (.agg #[.int .u8 s'.kind, .int .u64 a, .int .u64 (s.val a), .int .u64 (s'.val a)]) ∧ Below w.heap.size w w' := by
  obtain ⟨⟨S, hS⟩, hB⟩ := h
  refine (last_any w _ b s' S hS).mono fun e w' ⟨he, hA⟩ => ⟨?_, hA⟩
  rw [he]; simp only [accV, hg.addr, hg.was, hg.is]
/-- A box of four cells. -/
theorem box4 {w w' : World} {q T : Nat} {c0 c1 c2 c3 : Value} (hq : w.heap[q]? = some (.cells #[c0, c1, c2, c3] T (0, 0))) (h : Rest w w') (h1 : (T == 141) = false) (h2 : (T == 213) = false) :
    w'.heap[q]? = some (.cells #[c0, c1, c2, c3] T (0, 0)) ∧ w'.cell? ⟨q, 0, none⟩ = some c0 ∧ w'.cell? ⟨q, 1, none⟩ = some c1 ∧ w'.cell? ⟨q, 2, none⟩ = some c2 ∧ w'.cell? ⟨q, 3, none⟩ = some c3 := by
  have h3 := h q _ T _ hq h1 h2
  have c : ∀ o, w'.cell? ⟨q, o, none⟩ = (#[c0, c1, c2, c3] : Array Value)[o]? := fun o => by
    unfold World.cell?; simp only; rw [h3]; rfl
  exact ⟨h3, c 0, c 1, c 2, c 3⟩
end Go.Proofs.Ytpceooniklpidaa
