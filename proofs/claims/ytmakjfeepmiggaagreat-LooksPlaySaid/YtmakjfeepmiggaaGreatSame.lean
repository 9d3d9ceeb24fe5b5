/-
  Cells and the document's cells, side by side: an access of both.
-/
import Derived.Test.YtmakjfeepmiggaaGreatRef05Acc
import Derived.Test.YtmakjfeepmiggaaGreatCellsOwn
import Derived.Test.YtmakjfeepmiggaaGreatMark
import Derived.Test.YtmakjfeepmiggaaGreatFront
namespace Go.Proofs.YtmakjfeepmiggaaGreat
open Go.RowKit Go.Maps
set_option linter.unusedVariables false

theorem RCells.rest {w w' : World} {base r : Nat} {lv : Value} {x : RS} (h : RCells w base r lv x) (hb : Rest w w') : RCells w' base r lv x := by
  refine ⟨hb _ _ _ _ h.hdr rfl rfl, h.lo, ?_, h.wf⟩
  obtain ⟨h1, h3 | ⟨g, cap, cur, rfl, hg, hgg, r3⟩⟩ := h.row
  · exact ⟨h1, .inl h3⟩
  · exact ⟨h1, .inr ⟨g, cap, cur, rfl, hg, hb _ _ _ _ hgg rfl rfl, r3⟩⟩
theorem Own.ref {w0 w w' : World} {b r : Nat} {s : CS} {base : Nat} {lv : Value} {x : RS} (h : Own w0 w b s) (hr : RCells w base r lv x) (hb : w0.heap.size ≤ base) (hk : Keeps (· = r) w w') : Own w0 w' b s :=
  h.other hk hr.hdr (Nat.le_trans hb hr.lo) rfl rfl

section
variable {w0 w : World} {b : Nat} {s : CS} (h : Own w0 w b s) (hr : s.room) (a : Int) (ha : (Lit.int .u64 a).wf = true)
include h hr ha
theorem load_or : Calls Tryz.prog 62 #[.pointer (some ⟨b, 0, none⟩), .int .u64 a] w fun e w' => e = .returned (.int .u64 (s.val a)) ∧ Own w0 w' b (s.acc 1 a (s.val a)) ∧ Rest w w' := by
  obtain ⟨⟨S, hS⟩, hB⟩ := h
  exact (load_any w _ b s S hS a ha hr.1 hr.2 hB.size).mono fun e w' ⟨he, hA⟩ => ⟨he, Own.acc hS hB hA, hA.rest hS⟩
theorem store_or (v : Int) (hv : (Lit.int .u64 v).wf = true) : Calls Tryz.prog 41 #[.pointer (some ⟨b, 0, none⟩), .int .u64 a, .int .u64 v] w fun e w' => e = .returned (.int .u64 (s.val a)) ∧ Own w0 w' b (s.acc 2 a v) ∧ Rest w w' := by
  obtain ⟨⟨S, hS⟩, hB⟩ := h
  exact (store_any w _ b s S hS a v ha hv hr.1 hr.2 hB.size).mono fun e w' ⟨he, hA⟩ => ⟨he, Own.acc hS hB hA, hA.rest hS⟩
theorem add_or (v : Int) : Calls Tryz.prog 282 #[.pointer (some ⟨b, 0, none⟩), .int .u64 a, .int .u64 v] w fun e w' => e = .returned (.int .u64 (s.val a)) ∧ Own w0 w' b (s.acc 4 a (wu (s.val a + v))) ∧ Rest w w' := by
  obtain ⟨⟨S, hS⟩, hB⟩ := h
  exact (add_any w _ b s S hS a v ha hr.1 hr.2 hB.size).mono fun e w' ⟨he, hA⟩ => ⟨he, Own.acc hS hB hA, hA.rest hS⟩
theorem cas_or (x y : Int) (hy : (Lit.int .u64 y).wf = true) : Calls Tryz.prog 159 #[.pointer (some ⟨b, 0, none⟩), .int .u64 a, .int .u64 x, .int .u64 y] w fun e w' => e = .returned (.tuple #[.int .u64 (s.val a), .bool (s.val a == x)]) ∧
    Own w0 w' b (s.acc 3 a (if s.val a = x then y else s.val a)) ∧ Rest w w' := by
  obtain ⟨⟨S, hS⟩, hB⟩ := h
  exact (cas_any w _ b s S hS a x y ha hy hr.1 hr.2 hB.size).mono fun e w' ⟨he, hA⟩ => ⟨he, Own.acc hS hB hA, hA.rest hS⟩
end

/-- The two say the same. -/
structure Alike (s : CS) (x : RS) : Prop where
  val : s.val = rlook x.l
  ris : Ris x.l
  nz : ∀ p ∈ x.l, p.2 ≠ 0
  cnt : s.cnt = x.cnt
  kind : s.kind = x.kind
  addr : s.addr = x.addr
  was : s.was = x.was
  is : s.is = x.is
theorem Alike.acc {s : CS} {x : RS} (h : Alike s x) (k a i : Int) : Alike (s.acc k a i) (x.acc k a i) := by
  have e := rput_ins h.ris a i
  refine ⟨?_, ?_, fun p hp => ?_, ?_, rfl, rfl, ?_, rfl⟩
  · show upd s.val a i = rlook (rput x.l a i)
    rw [e, rlook_ins h.ris, h.val]
  · show Ris (rput x.l a i)
    rw [e]; exact rins_ris h.ris a i
  · have hp : p ∈ rput x.l a i := hp
    rw [e] at hp
    rcases rins_mem hp with hp | ⟨rfl, hv⟩
    · exact h.nz p hp
    · exact hv
  · show s.cnt + 1 = x.cnt + 1
    rw [h.cnt]
  · show s.val a = rlook x.l a
    rw [h.val]
theorem rins_len (l : List (Int × Int)) (a v : Int) : (rins l a v).length ≤ l.length + 1 := by
  induction l with
  | nil => unfold rins; split <;> simp
  | cons p r ih =>
    unfold rins
    split
    · simp only [List.length_cons]; omega
    · split <;> split <;> simp only [List.length_cons] <;> omega
/-- Cells at cb and the document's at r, both made since w0, say the same. -/
structure Both (w0 w : World) (cb r : Nat) (s : CS) (x : RS) : Prop where
  own : Own w0 w cb s
  ref : ∃ lv, RCells w w0.heap.size r lv x
  alike : Alike s x
theorem Both.keep {w0 w w' : World} {cb r : Nat} {s : CS} {x : RS} (h : Both w0 w cb r s x) (hb : Below w.heap.size w w') : Both w0 w' cb r s x := by
  obtain ⟨lv, hr⟩ := h.ref
  exact ⟨h.own.keep hb, ⟨lv, hr.keep hb⟩, h.alike⟩
/-- How far both are at most. -/
def Far (s : CS) (x : RS) (m : Nat) : Prop := s.n ≤ m ∧ s.cnt ≤ m ∧ x.l.length ≤ m
theorem Far.acc {s : CS} {x : RS} {m : Nat} (h : Far s x m) (ha : Alike s x) (k a i : Int) : Far (s.acc k a i) (x.acc k a i) (m + 1) := by
  have := rins_len x.l a i
  rw [← rput_ins ha.ris] at this
  obtain ⟨h1, h2, h3⟩ := h
  exact ⟨by simp only [CS.acc]; omega, by simp only [CS.acc]; omega, by simp only [RS.acc]; omega⟩

theorem both_after {w0 w2 w3 : World} {cb r : Nat} {s : CS} {x : RS} {k a i : Int} {lv : Value} (hA : Alike s x) (g : Own w0 w2 cb (s.acc k a i)) (h2 : RCells w2 w0.heap.size r lv x) (h3 : ∃ lv', RCells w3 w0.heap.size r lv' (x.acc k a i)) (hk : Keeps (· = r) w2 w3) : Both w0 w3 cb r (s.acc k a i) (x.acc k a i) :=
  ⟨g.ref h2 (Nat.le_refl _) hk, h3, hA.acc k a i⟩

end Go.Proofs.YtmakjfeepmiggaaGreat
