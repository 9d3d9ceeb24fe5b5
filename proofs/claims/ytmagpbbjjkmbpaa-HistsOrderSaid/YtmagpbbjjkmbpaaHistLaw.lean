/-
  Histories: the plain law of their order.
-/
import Derived.Test.YtmagpbbjjkmbpaaStabLaw
namespace Go.Proofs.Ytmagpbbjjkmbpaa
open Go.Sort
set_option linter.unusedVariables false

/-- An entry: its step, its place among the calls, its place among the drops. -/
structure En where
  st : Int
  ca : Int
  dr : Int
deriving Inhabited, DecidableEq
def En.rk (e : En) : Int := if e.dr = -1 then e.ca else 1000 + e.dr
def callE (ps : List Int) : List En := ps.zipIdx.map fun q => ⟨q.1, (q.2 : Int), -1⟩
def dropE (ds : List Int) : List En := ds.zipIdx.map fun q => ⟨q.1, -1, (q.2 : Int)⟩
def E0 (ps ds : List Int) : List En := callE ps ++ dropE ds
abbrev ETL (x y : En) : Prop := TL En.st En.rk x y
def IsOrd (ps ds : List Int) (O : List En) : Prop := O.Perm (E0 ps ds) ∧ O.Pairwise ETL
theorem callE_len (ps : List Int) : (callE ps).length = ps.length := by simp [callE]
theorem dropE_len (ds : List Int) : (dropE ds).length = ds.length := by simp [dropE]
theorem callE_at (ps : List Int) (i : Nat) (hi : i < ps.length) : (callE ps)[i]'(by rw [callE_len]; exact hi) = ⟨ps[i], i, -1⟩ := by simp [callE]
theorem dropE_at (ds : List Int) (i : Nat) (hi : i < ds.length) : (dropE ds)[i]'(by rw [dropE_len]; exact hi) = ⟨ds[i], -1, i⟩ := by simp [dropE]
theorem callE_snoc (ps : List Int) (p : Int) : callE (ps ++ [p]) = callE ps ++ [⟨p, (ps.length : Int), -1⟩] := by simp [callE, List.zipIdx_append]
theorem dropE_snoc (ds : List Int) (p : Int) : dropE (ds ++ [p]) = dropE ds ++ [⟨p, -1, (ds.length : Int)⟩] := by simp [dropE, List.zipIdx_append]
theorem callE_mem {ps : List Int} {e : En} (h : e ∈ callE ps) : ∃ i, ∃ hi : i < ps.length, e = ⟨ps[i], i, -1⟩ := by
  obtain ⟨i, hi, rfl⟩ := List.mem_iff_getElem.1 h
  exact ⟨i, by rw [← callE_len]; exact hi, callE_at _ _ _⟩
theorem dropE_mem {ds : List Int} {e : En} (h : e ∈ dropE ds) : ∃ i, ∃ hi : i < ds.length, e = ⟨ds[i], -1, i⟩ := by
  obtain ⟨i, hi, rfl⟩ := List.mem_iff_getElem.1 h
  exact ⟨i, by rw [← dropE_len]; exact hi, dropE_at _ _ _⟩
theorem E0_len (ps ds : List Int) : (E0 ps ds).length = ps.length + ds.length := by simp [E0, callE_len, dropE_len]
/-- Ranks rise among the entries as they are made. -/
theorem E0_rk (ps ds : List Int) (hp : ps.length ≤ 1000) : (E0 ps ds).Pairwise (fun x y => x.rk < y.rk) := by
  unfold E0
  rw [List.pairwise_append]
  refine ⟨?_, ?_, ?_⟩
  · rw [List.pairwise_iff_getElem]
    intro i j hi hj hij
    rw [callE_len] at hi hj
    rw [callE_at _ i hi, callE_at _ j hj]
    simp only [En.rk, if_true]; omega
  · rw [List.pairwise_iff_getElem]
    intro i j hi hj hij
    rw [dropE_len] at hi hj
    rw [dropE_at _ i hi, dropE_at _ j hj]
    simp only [En.rk]
    rw [if_neg (by omega), if_neg (by omega)]; omega
  · intro x hx y hy
    obtain ⟨i, hi, rfl⟩ := callE_mem hx
    obtain ⟨j, hj, rfl⟩ := dropE_mem hy
    simp only [En.rk, if_true]
    rw [if_neg (by omega)]; omega
theorem IsOrd.len {ps ds : List Int} {O : List En} (h : IsOrd ps ds O) : O.length = ps.length + ds.length := by rw [h.1.length_eq, E0_len]
theorem IsOrd.mem {ps ds : List Int} {O : List En} (h : IsOrd ps ds O) {e : En} (he : e ∈ O) : (∃ i, ∃ hi : i < ps.length, e = ⟨ps[i], i, -1⟩) ∨ (∃ i, ∃ hi : i < ds.length, e = ⟨ds[i], -1, i⟩) := by
  have := h.1.mem_iff.1 he
  rcases List.mem_append.1 this with h1 | h1
  · exact .inl (callE_mem h1)
  · exact .inr (dropE_mem h1)
theorem IsOrd.le {ps ds : List Int} {O : List En} (h : IsOrd ps ds O) (i j : Nat) (hi : i < j) (hj : j < O.length) : (O[i]).st ≤ (O[j]).st := by
  have := List.pairwise_iff_getElem.1 h.2 i j (by omega) hj hi
  unfold ETL TL at this; omega
theorem etl_asymm {x y : En} (h : ETL x y) : ¬ ETL y x := by unfold ETL TL at *; omega
theorem sorted_unique : ∀ (O O' : List En), O.Perm O' → O.Pairwise ETL → O'.Pairwise ETL → O = O'
  | [], O', h, _, _ => by rw [List.nil_perm] at h; exact h.symm
  | a :: O, [], h, _, _ => absurd h.length_eq (by simp)
  | a :: O, b :: O', h, h1, h2 => by
    have hab : a = b := by
      have ha : a ∈ b :: O' := h.mem_iff.1 (by simp)
      have hb : b ∈ a :: O := h.mem_iff.2 (by simp)
      rcases List.mem_cons.1 ha with e | ha
      · exact e
      · rcases List.mem_cons.1 hb with e | hb
        · exact e.symm
        · exact absurd ((List.pairwise_cons.1 h2).1 a ha) (etl_asymm ((List.pairwise_cons.1 h1).1 b hb))
    subst hab
    rw [sorted_unique O O' (List.perm_cons a |>.1 h) (List.pairwise_cons.1 h1).2 (List.pairwise_cons.1 h2).2]
theorem IsOrd.unique {ps ds : List Int} {O O' : List En} (h : IsOrd ps ds O) (h' : IsOrd ps ds O') : O = O' := sorted_unique _ _ (h.1.trans h'.1.symm) h.2 h'.2
/-- Behind a put in its place. -/
theorem put_ord {l X Y : List En} {e : En} (hl : l = X ++ Y) (h : l.Pairwise ETL) (hr : ∀ x ∈ l, x.rk < e.rk) (hy : ∀ y ∈ Y, e.st < y.st) (hx : ∀ x ∈ X, x.st ≤ e.st) : (X ++ e :: Y).Perm (l ++ [e]) ∧ (X ++ e :: Y).Pairwise ETL := by
  subst hl
  refine ⟨?_, ?_⟩
  · rw [List.append_assoc]
    exact List.Perm.append_left X (List.perm_append_comm (l₁ := [e]) (l₂ := Y))
  · rw [List.pairwise_append] at h ⊢
    refine ⟨h.1, List.pairwise_cons.2 ⟨fun y hy2 => .inl (hy y hy2), h.2.1⟩, fun x hx2 y hy2 => ?_⟩
    rcases List.mem_cons.1 hy2 with rfl | hy2
    · have := hx x hx2
      have := hr x (List.mem_append_left _ hx2)
      unfold ETL TL; omega
    · exact h.2.2 x hx2 y hy2
/-- All in front of one that is not above are not above. -/
theorem le_front {X : List En} {s : Int} (h : X.Pairwise ETL) (hl : ∀ x, X.getLast? = some x → x.st ≤ s) : ∀ x ∈ X, x.st ≤ s := by
  intro x hx
  obtain ⟨i, hi, rfl⟩ := List.mem_iff_getElem.1 hx
  have hn : X ≠ [] := by intro c; subst c; simp at hi
  have h1 := hl (X.getLast hn) (List.getLast?_eq_some_getLast hn)
  by_cases he : i = X.length - 1
  · rw [List.getLast_eq_getElem] at h1
    simp only [he]; exact h1
  · have := List.pairwise_iff_getElem.1 h i (X.length - 1) hi (by omega) (by omega)
    rw [List.getLast_eq_getElem] at h1
    unfold ETL TL at this; omega
/-! ## A history's calls, as far as it is asked whether they are well. -/
structure Cw where
  th : Int
  fr : Int
  to : Int
  pt : Int
def Cw.ok (c : Cw) : Prop := 0 ≤ c.th ∧ c.th ≤ 63 ∧ 0 ≤ c.fr ∧ c.fr < c.pt ∧ c.pt ≤ c.to
def CwOk (l : List Cw) : Prop := (∀ c ∈ l, c.ok) ∧ l.Pairwise fun c d => c.th = d.th → c.to ≤ d.fr
/-- The last call's end of a thread. -/
def lastTo (l : List Cw) (t : Int) : Int := l.foldl (fun a c => if c.th = t then c.to else a) 0
theorem lastTo_snoc (l : List Cw) (c : Cw) (t : Int) : lastTo (l ++ [c]) t = if c.th = t then c.to else lastTo l t := by unfold lastTo; rw [List.foldl_append]; rfl
theorem lastTo_ge {l : List Cw} (h : CwOk l) (t : Int) : 0 ≤ lastTo l t ∧ (∀ c ∈ l, c.th = t → c.to ≤ lastTo l t) ∧ (lastTo l t = 0 ∨ ∃ c ∈ l, c.th = t ∧ c.to = lastTo l t) := by
  rcases List.eq_nil_or_concat l with rfl | ⟨l', c, rfl⟩
  · exact ⟨Int.le_refl _, fun c hc => (by cases hc), .inl rfl⟩
  · simp only [List.concat_eq_append] at h ⊢
    obtain ⟨h1, h2⟩ := h
    rw [List.pairwise_append] at h2
    have ih := lastTo_ge (l := l') ⟨fun c hc => h1 c (List.mem_append_left _ hc), h2.1⟩ t
    have hc := h1 c (by simp)
    rw [lastTo_snoc]
    split
    · rename_i ht
      refine ⟨by unfold Cw.ok at hc; omega, fun d hd hdt => ?_, .inr ⟨c, by simp, ht, rfl⟩⟩
      rcases List.mem_append.1 hd with hd | hd
      · have := h2.2.2 d hd c (by simp) (by omega)
        unfold Cw.ok at hc; omega
      · simp only [List.mem_singleton] at hd; subst hd; exact Int.le_refl _
    · rename_i ht
      refine ⟨ih.1, fun d hd hdt => ?_, ?_⟩
      · rcases List.mem_append.1 hd with hd | hd
        · exact ih.2.1 d hd hdt
        · simp only [List.mem_singleton] at hd; subst hd; exact absurd hdt ht
      · rcases ih.2.2 with h3 | ⟨d, hd, h3⟩
        · exact .inl h3
        · exact .inr ⟨d, List.mem_append_left _ hd, h3⟩
termination_by l.length
decreasing_by simp_all
/-- One call more: what is asked of it, by the last end of its thread. -/
theorem cwok_snoc {l : List Cw} (h : CwOk l) (c : Cw) : CwOk (l ++ [c]) ↔ (0 ≤ c.th ∧ c.th ≤ 63 ∧ lastTo l c.th ≤ c.fr ∧ c.fr < c.pt ∧ c.pt ≤ c.to) := by
  have hg := lastTo_ge h c.th
  constructor
  · intro ⟨h1, h2⟩
    have hc := h1 c (by simp)
    rw [List.pairwise_append] at h2
    unfold Cw.ok at hc
    refine ⟨hc.1, hc.2.1, ?_, hc.2.2.2.1, hc.2.2.2.2⟩
    rcases hg.2.2 with h3 | ⟨d, hd, h3, h4⟩
    · omega
    · have := h2.2.2 d hd c (by simp) h3; omega
  · intro hh
    refine ⟨fun d hd => ?_, ?_⟩
    · rcases List.mem_append.1 hd with hd | hd
      · exact h.1 d hd
      · simp only [List.mem_singleton] at hd; subst hd
        unfold Cw.ok; omega
    · rw [List.pairwise_append]
      refine ⟨h.2, List.pairwise_singleton _ _, fun d hd e he hde => ?_⟩
      simp only [List.mem_singleton] at he; subst he
      have := hg.2.1 d hd hde; omega
/-- One call more: what the document asks of it. -/
theorem cwok_snoc' {l : List Cw} (h : CwOk l) (c : Cw) : CwOk (l ++ [c]) ↔ (c.ok ∧ ∀ d ∈ l, d.th = c.th → d.to ≤ c.fr) := by
  constructor
  · intro ⟨h1, h2⟩
    rw [List.pairwise_append] at h2
    exact ⟨h1 c (by simp), fun d hd hdt => h2.2.2 d hd c (by simp) hdt⟩
  · intro ⟨h1, h2⟩
    refine ⟨fun d hd => ?_, ?_⟩
    · rcases List.mem_append.1 hd with hd | hd
      · exact h.1 d hd
      · simp only [List.mem_singleton] at hd; subst hd; exact h1
    · rw [List.pairwise_append]
      exact ⟨h.2, List.pairwise_singleton _ _, fun d hd e he hde => by simp only [List.mem_singleton] at he; subst he; exact h2 d hd hde⟩
theorem cwok_take {l : List Cw} (h : CwOk l) (k : Nat) : CwOk (l.take k) := ⟨fun c hc => h.1 c (List.mem_of_mem_take hc), h.2.sublist (List.take_sublist _ _)⟩
def Wel (l : List Cw) (ds : List Int) : Prop := CwOk l ∧ (l.map Cw.pt ++ ds).Nodup
theorem ord_steps {ps ds : List Int} {O : List En} (h : IsOrd ps ds O) : (O.map En.st).Perm (ps ++ ds) := by
  have e : (E0 ps ds).map En.st = ps ++ ds := by
    unfold E0
    rw [List.map_append]
    congr 1
    · apply List.ext_getElem
      · simp [callE_len]
      · intro i h1 h2; rw [List.getElem_map, callE_at _ i h2]
    · apply List.ext_getElem
      · simp [dropE_len]
      · intro i h1 h2; rw [List.getElem_map, dropE_at _ i h2]
  rw [← e]; exact h.1.map _
theorem ord_nodup {ps ds : List Int} {O : List En} (h : IsOrd ps ds O) : (O.map En.st).Nodup ↔ (ps ++ ds).Nodup := (ord_steps h).nodup_iff
/-- Steps that never fall are all unlike just if neighbours are. -/
theorem nodup_adj {l : List Int} (h : ∀ i j, (hi : i < j) → (hj : j < l.length) → l[i]'(by omega) ≤ l[j]) : l.Nodup ↔ ∀ i, (hi : i + 1 < l.length) → l[i + 1] ≠ l[i]'(by omega) := by
  rw [List.nodup_iff_pairwise_ne, List.pairwise_iff_getElem]
  constructor
  · intro hp i hi c
    exact hp i (i + 1) (by omega) hi (by omega) c.symm
  · intro ha i j hi hj hij c
    have h1 := ha i (by omega)
    have h2 := h i (i + 1) (by omega) (by omega)
    by_cases hj2 : j = i + 1
    · subst hj2; exact h1 c.symm
    · have h3 := h (i + 1) j (by omega) hj; omega
end Go.Proofs.Ytmagpbbjjkmbpaa
