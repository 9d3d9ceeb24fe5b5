/-
  The document's cells: a rising list of words; plain laws.
-/
import Derived.Test.YtmakjfeepmiggaaGreatMapPtr
namespace Go.Proofs.YtmakjfeepmiggaaGreat
open Go.RowKit
set_option linter.unusedVariables false

def rstep (a v : Int) (o : List (Int × Int) × Bool) (p : Int × Int) : List (Int × Int) × Bool :=
  let o1 := if (!o.2 && decide (a ≤ p.1)) = true then (o.1 ++ [(a, v)], true) else o
  if (p.1 != a) = true then (o1.1 ++ [p], o1.2) else o1
def rrun (l : List (Int × Int)) (a v : Int) : List (Int × Int) × Bool := l.foldl (rstep a v) ([], v == 0)
def rput (l : List (Int × Int)) (a v : Int) : List (Int × Int) := if (!(rrun l a v).2) = true then (rrun l a v).1 ++ [(a, v)] else (rrun l a v).1
/-- What stands at an address. -/
def rlook (l : List (Int × Int)) (a : Int) : Int := match l with
  | [] => 0
  | p :: r => if p.1 = a then p.2 else rlook r a
theorem rrun_take {l : List (Int × Int)} {k : Nat} {p : Int × Int} (a v : Int) (h : l[k]? = some p) : rrun (l.take (k + 1)) a v = rstep a v (rrun (l.take k) a v) p := by
  unfold rrun; rw [List.take_add_one, h, List.foldl_append]; rfl
theorem rstep_len (a v : Int) (o : List (Int × Int) × Bool) (p : Int × Int) : (rstep a v o p).1.length ≤ o.1.length + 2 := by
  unfold rstep; simp only; split <;> split <;> simp
theorem rrun_len (l : List (Int × Int)) (a v : Int) : (rrun l a v).1.length ≤ 2 * l.length := by
  have key : ∀ (l : List (Int × Int)) (o : List (Int × Int) × Bool), (l.foldl (rstep a v) o).1.length ≤ o.1.length + 2 * l.length := by
    intro l
    induction l with
    | nil => intro o; simp
    | cons p l ih => intro o; have h1 := ih (rstep a v o p); have h2 := rstep_len a v o p; simp only [List.foldl_cons, List.length_cons]; omega
  have := key l ([], v == 0)
  simpa [rrun] using this

/-- Addresses rise. -/
def Ris (l : List (Int × Int)) : Prop := l.Pairwise fun p q => p.1 < q.1
/-- What a put leaves, written out. -/
def rins (l : List (Int × Int)) (a v : Int) : List (Int × Int) := match l with
  | [] => if v = 0 then [] else [(a, v)]
  | p :: r => if p.1 < a then p :: rins r a v else if p.1 = a then (if v = 0 then r else (a, v) :: r) else (if v = 0 then p :: r else (a, v) :: p :: r)
theorem rdone {l : List (Int × Int)} {a v : Int} (h : ∀ q ∈ l, q.1 ≠ a) (o : List (Int × Int)) : l.foldl (rstep a v) (o, true) = (o ++ l, true) := by
  induction l generalizing o with
  | nil => simp
  | cons p r ih =>
    have hp : (p.1 != a) = true := bne_iff_ne.2 (h p (by simp))
    have : rstep a v (o, true) p = (o ++ [p], true) := by simp [rstep, hp]
    rw [List.foldl_cons, this, ih (fun q hq => h q (by simp [hq]))]
    simp
theorem rput_ins {l : List (Int × Int)} (hr : Ris l) (a v : Int) : rput l a v = rins l a v := by
  have key : ∀ (l : List (Int × Int)), Ris l → ∀ (o : List (Int × Int)), (∀ q ∈ o, q.1 < a) →
      (let s := l.foldl (rstep a v) (o, v == 0); if (!s.2) = true then s.1 ++ [(a, v)] else s.1) = o ++ rins l a v := by
    intro l
    induction l with
    | nil =>
      intro _ o _
      by_cases hv : v = 0
      · subst hv; simp [rins]
      · simp [rins, hv]
    | cons p r ih =>
      intro hr o ho
      have hr2 := List.pairwise_cons.1 hr
      by_cases h1 : p.1 < a
      · have e : rstep a v (o, v == 0) p = (o ++ [p], v == 0) := by
          have : ¬ a ≤ p.1 := by omega
          have h3 : p.1 ≠ a := by omega
          simp [rstep, this, h3]
        have := ih hr2.2 (o ++ [p]) (fun q hq => by
          rcases List.mem_append.1 hq with hq | hq
          · exact ho q hq
          · simp only [List.mem_singleton] at hq; subst hq; exact h1)
        simp only [List.foldl_cons, e]
        simp only [rins, if_pos h1]
        simpa using this
      · have h2 : a ≤ p.1 := by omega
        have hgt : ∀ q ∈ r, q.1 ≠ a := fun q hq => by have := hr2.1 q hq; omega
        by_cases hv : v = 0
        · subst hv
          by_cases h3 : p.1 = a
          · have e : rstep a 0 (o, (0 : Int) == 0) p = (o, true) := by simp [rstep, h3]
            simp only [List.foldl_cons, e, rdone hgt]
            simp [rins, h3]
          · have e : rstep a 0 (o, (0 : Int) == 0) p = (o ++ [p], true) := by simp [rstep, h3]
            simp only [List.foldl_cons, e, rdone hgt]
            simp [rins, h3, h1]
        · have hv2 : (v == 0) = false := beq_eq_false_iff_ne.2 hv
          by_cases h3 : p.1 = a
          · have e : rstep a v (o, v == 0) p = (o ++ [(a, v)], true) := by simp [rstep, h3, hv]
            simp only [List.foldl_cons, e, rdone hgt]
            simp [rins, h3, hv]
          · have e : rstep a v (o, v == 0) p = (o ++ [(a, v)] ++ [p], true) := by simp [rstep, h3, h2, hv]
            simp only [List.foldl_cons, e, rdone hgt]
            simp [rins, h3, h1, hv]
  have := key l hr [] (by simp)
  simpa [rput, rrun] using this
theorem rins_mem {l : List (Int × Int)} {a v : Int} {q : Int × Int} (h : q ∈ rins l a v) : q ∈ l ∨ (q = (a, v) ∧ v ≠ 0) := by
  induction l with
  | nil => unfold rins at h; split at h <;> simp_all
  | cons p r ih =>
    unfold rins at h
    split at h
    · rcases List.mem_cons.1 h with h | h
      · exact .inl (by simp [h])
      · exact (ih h).imp (fun h => by simp [h]) id
    · split at h
      · split at h
        · exact .inl (by simp [h])
        · rename_i hv
          rcases List.mem_cons.1 h with h | h
          · exact .inr ⟨h, hv⟩
          · exact .inl (by simp [h])
      · split at h
        · exact .inl h
        · rename_i hv
          rcases List.mem_cons.1 h with h | h
          · exact .inr ⟨h, hv⟩
          · exact .inl h
theorem rins_ris {l : List (Int × Int)} (hr : Ris l) (a v : Int) : Ris (rins l a v) := by
  induction l with
  | nil => unfold rins; split <;> simp [Ris]
  | cons p r ih =>
    have hr2 := List.pairwise_cons.1 hr
    unfold rins
    split
    · rename_i h1
      refine List.pairwise_cons.2 ⟨fun q hq => ?_, ih hr2.2⟩
      rcases rins_mem hq with hq | ⟨rfl, _⟩
      · exact hr2.1 q hq
      · exact h1
    · split
      · rename_i h1 h2
        split
        · exact hr2.2
        · refine List.pairwise_cons.2 ⟨fun q hq => ?_, hr2.2⟩
          have := hr2.1 q hq
          show a < q.1
          omega
      · rename_i h1 h2
        split
        · exact hr
        · refine List.pairwise_cons.2 ⟨fun q hq => ?_, hr⟩
          show a < q.1
          rcases List.mem_cons.1 hq with rfl | hq
          · omega
          · have := hr2.1 q hq; omega
theorem rlook_out {l : List (Int × Int)} {a : Int} (h : ∀ q ∈ l, q.1 ≠ a) : rlook l a = 0 := by
  induction l with
  | nil => rfl
  | cons p r ih => unfold rlook; rw [if_neg (h p (by simp))]; exact ih fun q hq => h q (by simp [hq])
theorem rlook_ins {l : List (Int × Int)} (hr : Ris l) (a v : Int) : rlook (rins l a v) = upd (rlook l) a v := by
  induction l with
  | nil =>
    funext x
    unfold rins upd
    by_cases hv : v = 0
    · subst hv; simp [rlook]
    · by_cases hx : x = a
      · subst hx; simp [hv, rlook]
      · simp [hv, rlook, hx, Ne.symm hx]
  | cons p r ih =>
    have hr2 := List.pairwise_cons.1 hr
    have hi := ih hr2.2
    funext x
    have hix := congrFun hi x
    unfold rins
    by_cases h1 : p.1 < a
    · rw [if_pos h1]
      unfold rlook
      rw [hix]
      unfold upd
      by_cases hx : x = a
      · subst hx; simp; intro h; omega
      · simp [hx]
        rw [show rlook (p :: r) x = if p.1 = x then p.2 else rlook r x from rfl]
    · rw [if_neg h1]
      have hgt : ∀ q ∈ r, q.1 ≠ a := fun q hq => by have := hr2.1 q hq; omega
      by_cases h2 : p.1 = a
      · rw [if_pos h2]
        unfold upd
        by_cases hv : v = 0
        · subst hv
          rw [if_pos rfl]
          by_cases hx : x = a
          · subst hx; rw [rlook_out hgt]; simp
          · rw [show rlook (p :: r) x = if p.1 = x then p.2 else rlook r x from rfl]
            simp [hx, h2, Ne.symm hx]
        · rw [if_neg hv]
          rw [show rlook ((a, v) :: r) x = if a = x then v else rlook r x from rfl, show rlook (p :: r) x = if p.1 = x then p.2 else rlook r x from rfl]
          by_cases hx : x = a
          · subst hx; simp
          · simp [hx, h2, Ne.symm hx]
      · rw [if_neg h2]
        unfold upd
        by_cases hv : v = 0
        · subst hv
          rw [if_pos rfl]
          by_cases hx : x = a
          · subst hx
            rw [rlook_out (l := p :: r) (fun q hq => by
              rcases List.mem_cons.1 hq with rfl | hq
              · exact h2
              · exact hgt q hq)]; simp
          · simp [hx]
        · rw [if_neg hv]
          rw [show rlook ((a, v) :: p :: r) x = if a = x then v else rlook (p :: r) x from rfl]
          by_cases hx : x = a
          · subst hx; simp
          · simp [hx, Ne.symm hx]
end Go.Proofs.YtmakjfeepmiggaaGreat
