/-
  Marks of stripes.
-/
import Derived.Test.YtcihaamjklbdkaaWorldLives
import Derived.Test.YtcihaamjklbdkaaStripes
namespace Go.Proofs.Ytcihaamjklbdkaa
open Go.RowKit Go.Maps
set_option linter.unusedVariables false

/-- A store into a block of another type than cells' leaves the cells. -/
theorem Own.other {w0 w w' : World} {b : Nat} {s : CS} {q : Nat} {cs : Array Value} {T : TypeId} {fr : Nat × Nat} (h : Own w0 w b s) (hk : Keeps (· = q) w w') (hq : w.heap[q]? = some (.cells cs T fr)) (hlo : w0.heap.size ≤ q)
    (h1 : (T == 118) = false) (h2 : (T == 175) = false) : Own w0 w' b s := by
  obtain ⟨⟨S, hS⟩, hB⟩ := h
  refine ⟨⟨S, hS.keeps hk fun k hk c => ?_⟩, keeps_below hk hB hB.size fun k e => e ▸ hlo⟩
  subst c
  obtain ⟨mo, f, hA, rfl⟩ := hS
  rcases hk with rfl | hm | ⟨a, ha⟩
  · have := hA.hdr.symm.trans hq; simp only [Option.some.injEq, Obj.cells.injEq] at this; rw [← this.2.1] at h1; simp at h1
  · obtain ⟨⟨D, ⟨es, cl, hb, _⟩, _⟩, _⟩ := hA.map k hm
    have := hb.symm.trans hq; cases this
  · have := (hA.ptr a k ha).1.symm.trans hq; simp only [wordC, Option.some.injEq, Obj.cells.injEq] at this; rw [← this.2.1] at h2; simp at h2
theorem Wld.other {w0 w w' : World} {wb cb : Nat} {c : Conf} {s : CS} {q : Nat} {cs : Array Value} {T : TypeId} {fr : Nat × Nat} (h : Wld w0 w wb cb c s) (hk : Keeps (· = q) w w') (hq : w.heap[q]? = some (.cells cs T fr)) (hlo : w0.heap.size ≤ q)
    (h1 : (T == 118) = false) (h2 : (T == 175) = false) (h3 : (T == 42) = false) : Wld w0 w' wb cb c s := by
  obtain ⟨ib, nb, tk, hh, hb⟩ := h.blk
  refine ⟨h.own.other hk hq hlo h1 h2, ib, nb, tk, hh, (hk.block wb (Array.getElem?_eq_some_iff.1 hb).1 fun c => ?_).trans hb⟩
  subst c
  have := hb.symm.trans hq; simp only [Option.some.injEq, Obj.cells.injEq] at this; rw [← this.2.1] at h3; simp at h3

/-- Addresses that are left, without room behind them. -/
def Sl (w : World) (v : Value) (xs : List Int) : Prop :=
  (v = .slice none 0 0 ∧ xs = []) ∨ ∃ g off cur, v = .slice (some ⟨g, off, none⟩) xs.length xs.length ∧ w.heap[g]? = some (.cells cur 47 (0, 0)) ∧ xs.length ≤ maxLen ∧ (cur.toList.drop off).take xs.length = cu xs
theorem Adr.sl {w : World} {base : Nat} {v : Value} {xs : List Int} (h : Adr w base v xs) : Sl w v xs := by
  rcases h with h | ⟨g, cur, rfl, h1, h2, h3, h4⟩
  · exact .inl h
  · exact .inr ⟨g, 0, cur, rfl, h2, h3, by simpa using h4⟩
theorem Sl.keep {w w' : World} {v : Value} {xs : List Int} (h : Sl w v xs) (hb : Below w.heap.size w w') : Sl w' v xs := by
  rcases h with h | ⟨g, off, cur, rfl, h1, h2⟩
  · exact .inl h
  · exact .inr ⟨g, off, cur, rfl, (hb.block g (Array.getElem?_eq_some_iff.1 h1).1).trans h1, h2⟩
theorem Sl.rest {w w' : World} {v : Value} {xs : List Int} (h : Sl w v xs) (hb : Rest w w') : Sl w' v xs := by
  rcases h with h | ⟨g, off, cur, rfl, h1, h2⟩
  · exact .inl h
  · exact .inr ⟨g, off, cur, rfl, hb _ _ _ _ h1 rfl rfl, h2⟩
theorem Sl.len {w : World} {v : Value} {xs : List Int} (h : Sl w v xs) : ∃ a, v = .slice a xs.length xs.length ∧ xs.length ≤ maxLen := by
  rcases h with ⟨rfl, rfl⟩ | ⟨g, off, cur, rfl, h1, h2, h3⟩
  · exact ⟨none, rfl, Nat.zero_le _⟩
  · exact ⟨_, rfl, h2⟩
theorem Sl.at0 {w : World} {v : Value} {a : Int} {r : List Int} (h : Sl w v (a :: r)) : ∃ g off, v = .slice (some ⟨g, off, none⟩) (r.length + 1) (r.length + 1) ∧ w.cell? ⟨g, off, none⟩ = some (.int .u64 a) ∧ r.length + 1 ≤ maxLen ∧
    (∃ cur, w.heap[g]? = some (.cells cur 47 (0, 0))) ∧ Sl w (.slice (some ⟨g, off + 1, none⟩) r.length r.length) r := by
  rcases h with ⟨rfl, h⟩ | ⟨g, off, cur, rfl, h1, h2, h3⟩
  · cases h
  · simp only [List.length_cons] at h2 h3
    have hd : ∃ t, cur.toList.drop off = Value.int .u64 a :: t ∧ t.take r.length = cu r := by
      cases hh : cur.toList.drop off with
      | nil => rw [hh] at h3; simp [cu] at h3
      | cons x t =>
        rw [hh] at h3
        simp only [List.take_succ_cons, cu, List.map_cons, List.cons.injEq] at h3
        exact ⟨t, by rw [h3.1], h3.2⟩
    obtain ⟨t, ht, h4⟩ := hd
    have hc : cur[off]? = some (.int .u64 a) := by
      have : (cur.toList.drop off)[0]? = some (.int .u64 a) := by rw [ht]; rfl
      rw [List.getElem?_drop] at this
      simpa using this
    refine ⟨g, off, rfl, by simp [World.cell?, h1, hc], h2, ⟨cur, h1⟩, .inr ⟨g, off + 1, cur, rfl, h1, by omega, ?_⟩⟩
    have : cur.toList.drop (off + 1) = t := by rw [← List.drop_drop, ht]; rfl
    rw [this]; exact h4

theorem Sl.tail {w : World} {g off : Nat} {r : List Int} (h : ∃ cur, w.heap[g]? = some (.cells cur 47 (0, 0))) (hs : Sl w (.slice (some ⟨g, off + 1, none⟩) r.length r.length) r) : Sl w (.slice (if r = [] then some ⟨g, off, none⟩ else some ⟨g, off + 1, none⟩) r.length r.length) r := by
  obtain ⟨cur, hc⟩ := h
  split
  · rename_i hr; subst hr
    exact .inr ⟨g, off, cur, rfl, hc, Nat.zero_le _, by simp [cu]⟩
  · exact hs
theorem conf_b' {a b : Bool} (h : a = b) : Ending.returned (.bool a) = .returned (.bool b) := by rw [h]
end Go.Proofs.Ytcihaamjklbdkaa
