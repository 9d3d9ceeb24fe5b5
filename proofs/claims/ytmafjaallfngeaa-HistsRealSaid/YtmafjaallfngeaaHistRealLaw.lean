/-
  HistsReal: the plain law.
-/
import Derived.Test.YtmafjaallfngeaaHistOnceLaw
namespace Go.Proofs.Ytmafjaallfngeaa
open Go.RowKit Go.Maps Go.Sort
set_option linter.unusedVariables false

/-- Where calls stand among the first so many entries: their place and one; 0: not there. -/
def AtF (O : List En) (k : Nat) (f : Int → Int) : Prop := ∀ i : Nat, i < 128 → (f i = 0 ∧ ∀ j, j < k → (e : En) → O[j]? = some e → e.ca ≠ i) ∨ ∃ j e, j < k ∧ O[j]? = some e ∧ e.ca = i ∧ f i = (j : Int) + 1
theorem AtF.zero (O : List En) : AtF O 0 (fun _ => 0) := fun i _ => .inl ⟨rfl, fun j hj => by omega⟩
theorem AtF.call {O : List En} {k i : Nat} {e : En} {f : Int → Int} (h : AtF O k f) (he : O[k]? = some e) (hi : e.ca = (i : Int)) : AtF O (k + 1) (fun j => if (i : Int) = j then (k : Int) + 1 else f j) := fun j hj => by
  by_cases hij : i = j
  · subst hij
    exact .inr ⟨k, e, by omega, he, hi, if_pos rfl⟩
  · simp only
    rw [if_neg (by omega)]
    rcases h j hj with ⟨h1, h2⟩ | ⟨j', e', h1, h2, h3, h4⟩
    · refine .inl ⟨h1, fun j' hj' e' he' c => ?_⟩
      by_cases hk : j' = k
      · subst hk
        rw [he] at he'
        simp only [Option.some.injEq] at he'
        subst he'; omega
      · exact h2 j' (by omega) e' he' c
    · exact .inr ⟨j', e', by omega, h2, h3, h4⟩
theorem AtF.drop {O : List En} {k : Nat} {e : En} {f : Int → Int} (h : AtF O k f) (he : O[k]? = some e) (hi : e.ca = -1) : AtF O (k + 1) f := fun j hj => by
  rcases h j hj with ⟨h1, h2⟩ | ⟨j', e', h1, h2, h3, h4⟩
  · refine .inl ⟨h1, fun j' hj' e' he' c => ?_⟩
    by_cases hk : j' = k
    · subst hk
      rw [he] at he'
      simp only [Option.some.injEq] at he'
      subst he'; omega
    · exact h2 j' (by omega) e' he' c
  · exact .inr ⟨j', e', by omega, h2, h3, h4⟩
/-- At the end each call stands somewhere, at its point. -/
theorem AtF.at_ {h : Hst} {O : List En} {f : Int → Int} (ho : IsOrd (HC.pts h.cs) (HD.sts h.ds) O) (hf : AtF O O.length f) (i : Nat) (hi : i < h.cs.length) (h128 : i < 128) : ∃ j e, O[j]? = some e ∧ j < O.length ∧ e.st = (h.cs[i]).pt ∧ f i = (j : Int) + 1 := by
  rcases hf i h128 with ⟨h1, h2⟩ | ⟨j, e, h1, h2, h3, h4⟩
  · have hm : (⟨(h.cs[i]).pt, i, -1⟩ : En) ∈ O := by
      rw [ho.1.mem_iff]
      unfold E0
      refine List.mem_append_left _ (List.mem_iff_getElem.2 ⟨i, by rw [callE_len]; simpa [HC.pts] using hi, ?_⟩)
      rw [callE_at _ i (by simpa [HC.pts] using hi)]
      simp [HC.pts]
    obtain ⟨j, hj, he⟩ := List.mem_iff_getElem.1 hm
    exact absurd rfl (h2 j hj _ (by rw [List.getElem?_eq_getElem hj, he]))
  · refine ⟨j, e, h2, h1, ?_, h4⟩
    rcases ho.mem (List.mem_of_getElem? h2) with ⟨i', hi', rfl⟩ | ⟨i', hi', rfl⟩
    · simp only at h3
      have : i' = i := by omega
      subst this
      simp [HC.pts]
    · simp only at h3; omega
theorem real_lt {h : Hst} {O : List En} {f : Int → Int} (ho : IsOrd (HC.pts h.cs) (HD.sts h.ds) O) (hf : AtF O O.length f) (hw : CwOk (cws h.cs)) {a b : Nat} (ha : a < h.cs.length) (hb : b < h.cs.length) (h1 : a < 128) (h2 : b < 128) (hp : (h.cs[a]).pt < (h.cs[b]).pt) : f a < f b := by
  obtain ⟨i, x, x1, x2, x3, x4⟩ := hf.at_ ho a ha h1
  obtain ⟨j, y, y1, y2, y3, y4⟩ := hf.at_ ho b hb h2
  rw [x4, y4]
  by_cases hij : i < j
  · omega
  · exfalso
    have hle : y.st ≤ x.st := by
      by_cases he : i = j
      · subst he; rw [x1] at y1; cases y1; exact Int.le_refl _
      · have := ho.le j i (by omega) x2
        rw [(List.getElem?_eq_some_iff.1 y1).2, (List.getElem?_eq_some_iff.1 x1).2] at this
        exact this
    omega
theorem cw_get {h : Hst} (hw : CwOk (cws h.cs)) {a : Nat} (ha : a < h.cs.length) : (h.cs[a]).fr < (h.cs[a]).pt ∧ (h.cs[a]).pt ≤ (h.cs[a]).to := by
  have : (h.cs[a]).cw ∈ cws h.cs := List.mem_map.2 ⟨_, List.getElem_mem ha, rfl⟩
  have := hw.1 _ this
  unfold Cw.ok HC.cw at this
  simp only at this
  omega
theorem real_to {h : Hst} (hw : CwOk (cws h.cs)) {a b : Nat} (ha : a < h.cs.length) (hb : b < h.cs.length) (ht : (h.cs[a]).to ≤ (h.cs[b]).fr) : (h.cs[a]).pt < (h.cs[b]).pt := by
  have h1 := cw_get hw ha
  have h2 := cw_get hw hb
  omega
theorem real_th {h : Hst} (hw : CwOk (cws h.cs)) {a b : Nat} (ha : a < h.cs.length) (hb : b < h.cs.length) (hab : a < b) (ht : (h.cs[a]).th = (h.cs[b]).th) : (h.cs[a]).pt < (h.cs[b]).pt := by
  have := List.pairwise_iff_getElem.1 hw.2 a b (by simpa [cws] using ha) (by simpa [cws] using hb) hab (by simpa [cws, HC.cw] using ht)
  simp only [cws, List.getElem_map, HC.cw] at this
  exact real_to hw ha hb this
theorem real_pos {h : Hst} {O : List En} {f : Int → Int} (ho : IsOrd (HC.pts h.cs) (HD.sts h.ds) O) (hf : AtF O O.length f) {a : Nat} (ha : a < h.cs.length) (h1 : a < 128) : 0 < f a ∧ f a ≤ O.length := by
  obtain ⟨i, x, x1, x2, x3, x4⟩ := hf.at_ ho a ha h1
  omega
end Go.Proofs.Ytmafjaallfngeaa
