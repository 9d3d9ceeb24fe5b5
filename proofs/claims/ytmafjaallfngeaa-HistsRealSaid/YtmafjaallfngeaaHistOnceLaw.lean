/-
  HistsOnce: the plain law.
-/
import Derived.Test.YtmafjaallfngeaaHistLives
namespace Go.Proofs.Ytmafjaallfngeaa
open Go.RowKit Go.Maps Go.Sort
set_option linter.unusedVariables false

/-- How many entries are of this call, of this drop. -/
def cnC (l : List En) (j : Int) : Int := (l.countP fun e => decide (e.ca = j) : Nat)
def cnD (l : List En) (j : Int) : Int := (l.countP fun e => decide (e.dr = j) : Nat)
theorem cnC_snoc (l : List En) (e : En) (j : Int) : cnC (l ++ [e]) j = cnC l j + if e.ca = j then 1 else 0 := by
  unfold cnC; rw [List.countP_append]
  by_cases h : e.ca = j <;> simp [h]
theorem cnD_snoc (l : List En) (e : En) (j : Int) : cnD (l ++ [e]) j = cnD l j + if e.dr = j then 1 else 0 := by
  unfold cnD; rw [List.countP_append]
  by_cases h : e.dr = j <;> simp [h]
theorem cnC_le (l : List En) (j : Int) : 0 ≤ cnC l j ∧ cnC l j ≤ l.length := ⟨by unfold cnC; omega, by unfold cnC; have := List.countP_le_length (p := fun e : En => decide (e.ca = j)) (l := l); omega⟩
theorem cnD_le (l : List En) (j : Int) : 0 ≤ cnD l j ∧ cnD l j ≤ l.length := ⟨by unfold cnD; omega, by unfold cnD; have := List.countP_le_length (p := fun e : En => decide (e.dr = j)) (l := l); omega⟩
theorem cnC_call (n : Nat) : ∀ (ps : List Int), ps.length = n → ∀ j : Nat, cnC (callE ps) j = if j < n then 1 else 0 := by
  induction n with
  | zero =>
    intro ps h j
    obtain rfl := List.length_eq_zero_iff.1 h
    rfl
  | succ n ih =>
    intro ps h j
    rcases List.eq_nil_or_concat ps with rfl | ⟨qs, p, rfl⟩
    · simp at h
    · rw [List.concat_eq_append] at h ⊢
      have hq : qs.length = n := by simpa using h
      rw [callE_snoc, cnC_snoc, ih qs hq j, hq]
      by_cases h1 : j < n
      · rw [if_pos h1, if_neg (by simp only; omega), if_pos (by omega)]; rfl
      · by_cases h2 : j = n
        · subst h2; simp
        · rw [if_neg h1, if_neg (by simp only; omega), if_neg (by omega)]; rfl
theorem cnD_drop (n : Nat) : ∀ (ps : List Int), ps.length = n → ∀ j : Nat, cnD (dropE ps) j = if j < n then 1 else 0 := by
  induction n with
  | zero =>
    intro ps h j
    obtain rfl := List.length_eq_zero_iff.1 h
    rfl
  | succ n ih =>
    intro ps h j
    rcases List.eq_nil_or_concat ps with rfl | ⟨qs, p, rfl⟩
    · simp at h
    · rw [List.concat_eq_append] at h ⊢
      have hq : qs.length = n := by simpa using h
      rw [dropE_snoc, cnD_snoc, ih qs hq j, hq]
      by_cases h1 : j < n
      · rw [if_pos h1, if_neg (by simp only; omega), if_pos (by omega)]; rfl
      · by_cases h2 : j = n
        · subst h2; simp
        · rw [if_neg h1, if_neg (by simp only; omega), if_neg (by omega)]; rfl
theorem cnC_drop (ds : List Int) (j : Nat) : cnC (dropE ds) j = 0 := by
  unfold cnC
  rw [List.countP_eq_zero.2]; rfl
  intro e he
  obtain ⟨i, hi, rfl⟩ := dropE_mem he
  simp <;> omega
theorem cnD_call (ps : List Int) (j : Nat) : cnD (callE ps) j = 0 := by
  unfold cnD
  rw [List.countP_eq_zero.2]; rfl
  intro e he
  obtain ⟨i, hi, rfl⟩ := callE_mem he
  simp <;> omega
theorem ord_cn {ps ds : List Int} {O : List En} (h : IsOrd ps ds O) (j : Nat) : (j < ps.length → cnC O j = 1) ∧ (j < ds.length → cnD O j = 1) := by
  have e1 : cnC O j = cnC (callE ps) j + cnC (dropE ds) j := by
    unfold cnC; rw [h.1.countP_eq]; unfold E0; rw [List.countP_append]; omega
  have e2 : cnD O j = cnD (callE ps) j + cnD (dropE ds) j := by
    unfold cnD; rw [h.1.countP_eq]; unfold E0; rw [List.countP_append]; omega
  refine ⟨fun hj => ?_, fun hj => ?_⟩
  · rw [e1, cnC_drop, cnC_call _ ps rfl j, if_pos hj]; rfl
  · rw [e2, cnD_call, cnD_drop _ ds rfl j, if_pos hj]; rfl
/-- A block of 128 counts. -/
def Cnt (w : World) (q : Nat) (f : Int → Int) : Prop := ∃ cs : Array Value, w.heap[q]? = some (.cells cs 28 (0, 0)) ∧ cs.size = 128 ∧ ∀ j : Nat, j < 128 → cs[j]? = some (.int .i64 (f j))
theorem Cnt.cell {w : World} {q : Nat} {f : Int → Int} (h : Cnt w q f) (j : Nat) (hj : j < 128) : w.cell? ⟨q, j, none⟩ = some (.int .i64 (f j)) ∧ w.frozen? ⟨q, j, none⟩ = false := by
  obtain ⟨cs, h1, h2, h3⟩ := h
  exact ⟨(hblk h1 j).trans (h3 j hj), hbfz h1 j⟩
theorem Cnt.lt {w : World} {q : Nat} {f : Int → Int} (h : Cnt w q f) : q < w.heap.size := by obtain ⟨cs, h1, -⟩ := h; exact (Array.getElem?_eq_some_iff.1 h1).1
theorem Cnt.keep {w w' : World} {q : Nat} {f : Int → Int} (h : Cnt w q f) (hk : w'.heap[q]? = w.heap[q]?) : Cnt w' q f := by
  obtain ⟨cs, h1, h2⟩ := h; exact ⟨cs, hk.trans h1, h2⟩
theorem Cnt.below {w w' : World} {q : Nat} {f : Int → Int} (h : Cnt w q f) (hb : Below w.heap.size w w') : Cnt w' q f := h.keep (hb.block _ h.lt)
theorem Cnt.set {w : World} {q : Nat} {f g : Int → Int} (h : Cnt w q f) (i : Nat) (hi : i < 128) (v : Int) (hg : ∀ j : Nat, j < 128 → g j = if i = j then v else f j) : Cnt (w.setCell ⟨q, i, none⟩ (.int .i64 v)) q g := by
  obtain ⟨cs, h1, h2, h3⟩ := h
  refine ⟨_, setCell_same h1 i _, by simp [h2], fun j hj => ?_⟩
  rw [Array.getElem?_setIfInBounds, hg j hj]
  by_cases hij : i = j
  · rw [if_pos hij, if_pos hij, if_pos (by omega)]
  · rw [if_neg hij, if_neg hij]; exact h3 j hj
theorem Cnt.congr {w : World} {q : Nat} {f g : Int → Int} (h : Cnt w q f) (hg : ∀ j : Nat, j < 128 → g j = f j) : Cnt w q g := by
  obtain ⟨cs, h1, h2, h3⟩ := h
  exact ⟨cs, h1, h2, fun j hj => by rw [hg j hj]; exact h3 j hj⟩
theorem Cnt.zero {w : World} {q : Nat} (h : w.heap[q]? = some (.cells (Array.replicate 128 (.int .i64 0)) 28 (0, 0))) : Cnt w q (fun _ => 0) := ⟨_, h, by simp, fun j hj => by simp [hj]⟩
end Go.Proofs.Ytmafjaallfngeaa
