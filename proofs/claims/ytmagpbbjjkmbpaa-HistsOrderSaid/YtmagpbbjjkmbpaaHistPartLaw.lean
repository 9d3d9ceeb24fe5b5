/-
  HistsPart: the plain law; rows that a call made, to be read as a history.
-/
import Derived.Test.YtmagpbbjjkmbpaaHistOf
import Derived.Test.YtmagpbbjjkmbpaaHistLives
namespace Go.Proofs.Ytmagpbbjjkmbpaa
open Go.RowKit Go.Maps Go.Sort
set_option linter.unusedVariables false

theorem cwok_sub {l m : List Cw} (h : CwOk l) (hs : m.Sublist l) : CwOk m := ⟨fun c hc => h.1 c (hs.subset hc), h.2.sublist hs⟩
theorem wel_sub {cs pl : List HC} {ds dl : List Int} (h : Wel (cws cs) ds) (h1 : pl.Sublist cs) (h2 : dl.Sublist ds) : Wel (cws pl) dl := by
  refine ⟨cwok_sub h.1 (h1.map _), ?_⟩
  exact h.2.sublist (((h1.map _).map _).append h2)
theorem no_th (x : HC) (r : List HC) (ds : List Int) (h : x.th = -1) : ¬ Wel (cws (x :: r)) ds := fun c => by
  have := c.1.1 x.cw (by simp [cws])
  unfold Cw.ok HC.cw at this
  simp only at this
  omega
theorem no_pt (x : HC) (r : List HC) (ds : List Int) (h : x.pt = x.fr) : ¬ Wel (cws (x :: r)) ds := fun c => by
  have := c.1.1 x.cw (by simp [cws])
  unfold Cw.ok HC.cw at this
  simp only at this
  omega
theorem flatC_at (l : List HC) (k : Nat) (hk : k < l.length) (j : Nat) (hj : j < 20) : (flatC l)[k * 20 + j]? = (l[k]).cells[j]? := by
  induction l generalizing k with
  | nil => simp at hk
  | cons x r ih =>
    unfold flatC
    rw [List.flatMap_cons]
    match k with
    | 0 =>
      rw [List.getElem?_append_left (by simp [HC.cells]; omega)]
      simp
    | k + 1 =>
      rw [List.getElem?_append_right (by simp [HC.cells]; omega)]
      have := ih k (by simp at hk; omega)
      simp only [List.getElem_cons_succ]
      rw [← this]
      unfold flatC
      congr 1
      simp [HC.cells]; omega
theorem hcs_own {w : World} {base cap : Nat} {a : Option Addr} {l : List HC} (h : w.ownsRow base 57 20 (.slice a l.length cap) l.length (flatC l)) (hw : ∀ x ∈ l, x.wf) : HCs w a cap l := by
  obtain ⟨h1, ⟨e, h0⟩ | ⟨g, cap', cur, e, hb, hg, hn, hm, hs, ht⟩⟩ := h
  · simp only [Value.slice.injEq] at e
    have : l = [] := List.length_eq_zero_iff.1 h0
    subst this
    exact ⟨Nat.zero_le _, by rw [e.2.2]; exact Nat.zero_le _, fun _ => e.2.2, hw, .inl rfl⟩
  · simp only [Value.slice.injEq] at e
    obtain ⟨rfl, -, rfl⟩ := e
    refine ⟨hn, hm, fun c => (by cases c), hw, .inr ⟨g, 0, rfl, fun i hi j hj => ?_⟩⟩
    rw [hblk hg, ← flatC_at l i hi j hj, ← ht, List.getElem?_take, if_pos (by omega)]
    simp
def flatD (l : List HD) : List Value := l.flatMap HD.cells
theorem flatD_snoc (l : List HD) (x : HD) : flatD (l ++ [x]) = flatD l ++ x.cells := by simp [flatD]
theorem flatD_at (l : List HD) (k : Nat) (hk : k < l.length) (j : Nat) (hj : j < 7) : (flatD l)[k * 7 + j]? = (l[k]).cells[j]? := by
  induction l generalizing k with
  | nil => simp at hk
  | cons x r ih =>
    unfold flatD
    rw [List.flatMap_cons]
    match k with
    | 0 =>
      rw [List.getElem?_append_left (by simp [HD.cells]; omega)]
      simp
    | k + 1 =>
      rw [List.getElem?_append_right (by simp [HD.cells]; omega)]
      have := ih k (by simp at hk; omega)
      simp only [List.getElem_cons_succ]
      rw [← this]
      unfold flatD
      congr 1
      simp [HD.cells]; omega
theorem hds_own {w : World} {base cap : Nat} {a : Option Addr} {l : List HD} (h : w.ownsRow base 62 7 (.slice a l.length cap) l.length (flatD l)) (hw : ∀ x ∈ l, x.wf) : HDs w a cap l := by
  obtain ⟨h1, ⟨e, h0⟩ | ⟨g, cap', cur, e, hb, hg, hn, hm, hs, ht⟩⟩ := h
  · simp only [Value.slice.injEq] at e
    have : l = [] := List.length_eq_zero_iff.1 h0
    subst this
    exact ⟨Nat.zero_le _, by rw [e.2.2]; exact Nat.zero_le _, fun _ => e.2.2, hw, .inl rfl⟩
  · simp only [Value.slice.injEq] at e
    obtain ⟨rfl, -, rfl⟩ := e
    refine ⟨hn, hm, fun c => (by cases c), hw, .inr ⟨g, 0, rfl, fun i hi j hj => ?_⟩⟩
    rw [hblk hg, ← flatD_at l i hi j hj, ← ht, List.getElem?_take, if_pos (by omega)]
    simp
/-- A part so far: what was not left out. -/
def part {α : Type} (out : Nat → Bool) (b : Nat) (l : List α) : List α := (l.zipIdx.filter fun q => !out (b + q.2)).map Prod.fst
theorem part_sub {α : Type} (out : Nat → Bool) (b : Nat) (l : List α) : (part out b l).Sublist l := by
  unfold part
  have h1 : ((l.zipIdx.filter fun q => !out (b + q.2)).map Prod.fst).Sublist (l.zipIdx.map Prod.fst) := List.filter_sublist.map _
  simpa using h1
theorem part_take {α : Type} (out : Nat → Bool) (b : Nat) (l : List α) (k : Nat) (x : α) (hx : l[k]? = some x) : part out b (l.take (k + 1)) = if out (b + k) = true then part out b (l.take k) else part out b (l.take k) ++ [x] := by
  have hk : k < l.length := (List.getElem?_eq_some_iff.1 hx).1
  unfold part
  rw [List.take_add_one, hx]
  simp only [Option.toList, List.zipIdx_append, List.length_take, List.filter_append, List.map_append]
  rw [Nat.min_eq_left (Nat.le_of_lt hk)]
  by_cases h : out (b + k) = true
  · simp [h]
  · simp [h]
end Go.Proofs.Ytmagpbbjjkmbpaa
