/-
  Rows of a history's entries, and their sort.
-/
import Derived.Test.YtmagpbbjjkmbpaaStabAll
import Derived.Test.YtmagpbbjjkmbpaaHRows
import Derived.Test.YtmagpbbjjkmbpaaKeeps
import Derived.Test.YtmagpbbjjkmbpaaOwnRow
namespace Go.Proofs.Ytmagpbbjjkmbpaa
open Go.RowKit Go.Maps Go.Sort
set_option linter.unusedVariables false

theorem hballoc (w : World) (o : Obj) : Below w.heap.size w (w.alloc o) := (Below.refl _ _).alloc (Nat.le_refl _) _
theorem hblk {w : World} {q : Nat} {cs : Array Value} {T : TypeId} (h : w.heap[q]? = some (.cells cs T (0, 0))) (o : Nat) : w.cell? ⟨q, o, none⟩ = cs[o]? := by simp [World.cell?, h]
theorem hbfz {w : World} {q : Nat} {cs : Array Value} {T : TypeId} (h : w.heap[q]? = some (.cells cs T (0, 0))) (o : Nat) : w.frozen? ⟨q, o, none⟩ = false := by simp [World.frozen?, h]
def flatE (l : List En) : List Value := l.flatMap encE
theorem flatE_len (l : List En) : (flatE l).length = l.length * 3 := by
  induction l with
  | nil => rfl
  | cons x r ih => simp only [flatE, List.flatMap_cons, List.length_append, List.length_cons] at *; rw [ih]; simp [encE]; omega
theorem flatE_snoc (l : List En) (x : En) : flatE (l ++ [x]) = flatE l ++ [.int .i64 x.st, .int .i64 x.ca, .int .i64 x.dr] := by simp [flatE, encE]
theorem flatE_at (l : List En) (k : Nat) (hk : k < l.length) (j : Nat) (hj : j < 3) : (flatE l)[k * 3 + j]? = (encE l[k])[j]? := by
  induction l generalizing k with
  | nil => simp at hk
  | cons x r ih =>
    unfold flatE
    rw [List.flatMap_cons]
    match k with
    | 0 =>
      rw [List.getElem?_append_left (by simp [encE]; omega)]
      simp
    | k + 1 =>
      rw [List.getElem?_append_right (by simp [encE]; omega)]
      have := ih k (by simp at hk; omega)
      simp only [List.getElem_cons_succ]
      rw [← this]
      unfold flatE
      congr 1
      simp [encE]; omega
/-- A row of entries that the call made, without room behind it. -/
def ERow (w : World) (base : Nat) (v : Value) (l : List En) : Prop :=
  (v = .slice none 0 0 ∧ l = []) ∨ ∃ g cur, v = .slice (some ⟨g, 0, none⟩) l.length l.length ∧ base ≤ g ∧ w.heap[g]? = some (.cells cur 42 (0, 0)) ∧ l.length ≤ maxLen ∧ cur.toList.take (l.length * 3) = flatE l
theorem ERow.below {w w' : World} {base : Nat} {v : Value} {l : List En} (h : ERow w base v l) (hb : Below w.heap.size w w') : ERow w' base v l := by
  rcases h with h | ⟨g, cur, h1, h2, h3, h4⟩
  · exact .inl h
  · exact .inr ⟨g, cur, h1, h2, (hb.block _ (Array.getElem?_eq_some_iff.1 h3).1).trans h3, h4⟩
theorem ERow.mono {w : World} {b base : Nat} {v : Value} {l : List En} (h : ERow w b v l) (hb : base ≤ b) : ERow w base v l := by
  rcases h with h | ⟨g, cur, h1, h2, h3⟩
  · exact .inl h
  · exact .inr ⟨g, cur, h1, Nat.le_trans hb h2, h3⟩
theorem ERow.sl {w : World} {base : Nat} {v : Value} {l : List En} (h : ERow w base v l) : ∃ a, v = .slice a l.length l.length ∧ l.length ≤ maxLen := by
  rcases h with ⟨rfl, rfl⟩ | ⟨g, cur, rfl, -, -, h4, -⟩
  · exact ⟨none, rfl, Nat.zero_le _⟩
  · exact ⟨_, rfl, h4⟩
theorem ERow.at {w : World} {base : Nat} {a : Option Addr} {n c : Nat} {l : List En} (h : ERow w base (.slice a n c) l) (k : Nat) (hk : k < l.length) :
    ∃ g e, a = some ⟨g, 0, none⟩ ∧ l[k]? = some e ∧ w.cell? ⟨g, k * 3, none⟩ = some (.int .i64 e.st) ∧ w.cell? ⟨g, k * 3 + 1, none⟩ = some (.int .i64 e.ca) ∧ w.cell? ⟨g, k * 3 + 2, none⟩ = some (.int .i64 e.dr) := by
  rcases h with ⟨-, rfl⟩ | ⟨g, cur, hv, -, hg, -, ht⟩
  · simp at hk
  · simp only [Value.slice.injEq] at hv
    have hj : ∀ j, j < 3 → w.cell? ⟨g, k * 3 + j, none⟩ = (encE l[k])[j]? := fun j hj => by
      rw [← flatE_at l k hk j hj, ← ht, List.getElem?_take, if_pos (by omega)]
      simp [World.cell?, hg]
    exact ⟨g, l[k], hv.1, List.getElem?_eq_getElem hk, hj 0 (by omega), hj 1 (by omega), hj 2 (by omega)⟩
theorem eclip_any {w : World} {base : Nat} {v : Value} {l : List En} (h : w.ownsRow base 42 3 v l.length (flatE l)) : Calls Try.prog 33 #[v] w fun e w' => ∃ v', e = .returned v' ∧ ERow w base v' l ∧ w' = w := by
  obtain ⟨h1, ⟨rfl, h0⟩ | ⟨g, cap, cur, rfl, hb, hg, hn, hm, hs, ht⟩⟩ := h
  · have : l = [] := List.length_eq_zero_iff.1 h0
    subst this
    clear h1 h0
    go_enter Try.func33, Try.ntmps33
    go_wp2
    go_ret
    exact ⟨_, rfl, .inl ⟨rfl, rfl⟩, rfl⟩
  · have hm2 := Nat.le_trans hn hm
    have H : Hid (ERow w base (.slice (some ⟨g, 0, none⟩) l.length l.length) l) := .inr ⟨g, cur, rfl, hb, hg, hm2, ht⟩
    unfold maxLen at hm hm2
    clear h1 hb hg hs ht
    go_enter Try.func33, Try.ntmps33
    go_wp2
    go_ret
    exact ⟨_, rfl, H.out, rfl⟩
theorem holds_flatE {w : World} {g e : Nat} {cur : Array Value} (hg : w.heap[g]? = some (.cells cur e (0, 0))) (l : List En) (ht : cur.toList.take (l.length * 3) = flatE l) : HoldsK encE 3 w g 0 l.toArray := by
  intro j hj
  rw [size_flatK] at hj
  have hj2 : j < l.length * 3 := by simpa using hj
  have hi : j / 3 < l.length := by omega
  have hc : cur[j]? = (flatE l)[j]? := by rw [← ht, List.getElem?_take_of_lt hj2]; simp
  have hw : w.cell? ⟨g, 0 + j, none⟩ = cur[j]? := by simp [World.cell?, hg]
  refine ⟨?_, by simp [World.frozen?, hg]⟩
  rw [get_flatK _ _ _ _ hj, hw, hc]
  have hf := flatE_at l (j / 3) hi (j % 3) (by omega)
  rw [show j / 3 * 3 + j % 3 = j by omega] at hf
  rw [hf]
  have hlt : j % 3 < (encE l[j / 3]).length := by show j % 3 < 3; omega
  rw [List.getElem?_eq_getElem hlt]
  rw [show l.toArray[j / 3]! = l[j / 3] by simp [hi], id, getElem!_pos (encE l[j / 3]) _ hlt]
theorem esort_keeps (w : World) (g n : Nat) (d : Array En) (os : Array Obj) : Keeps (· = g) w (sortWorldK encE 3 w g 0 n d os) := by
  refine ⟨rfl, rfl, rfl, size_sortWorldK_c _ _ _ _ _ _ _ _, fun k hk hne => ?_⟩
  have hne : ¬ g = k := fun c => hne c.symm
  unfold sortWorldK grow putRowK putRow mapBlock Sort.ahead
  simp only
  rw [Array.getElem?_append_left (by simpa using hk)]
  simp [Array.getElem?_modify, hne]
theorem esort_row {w w' : World} {base g cap : Nat} {cur : Array Value} (hgb : base ≤ g) (hg : w.heap[g]? = some (.cells cur 42 (0, 0))) {l : List En} (hn : l.length ≤ cap) (hm : cap ≤ maxLen) (hs : cur.size = cap * 3) (ht : cur.toList.take (l.length * 3) = flatE l) {d' : Array En} (hd : d'.size = l.length) (hw : SWK encE 3 w g 0 d' w') :
    w'.ownsRow base 42 3 (.slice (some ⟨g, 0, none⟩) d'.toList.length cap) d'.toList.length (flatE d'.toList) ∧ Keeps (· = g) w w' := by
  obtain ⟨n, os, rfl⟩ := hw
  have hlt : g < w.heap.size := (Array.getElem?_eq_some_iff.1 hg).1
  have hH := holdsK_sortWorldK_c encE 3 w g 0 l.toArray d' n os (holds_flatE hg l ht) hlt (by simpa using hd)
  have hh : (sortWorldK encE 3 w g 0 n d' os).heap[g]? = some (.cells (putCells id 0 (flatK encE 3 d') cur) 42 (0, 0)) := by
    unfold sortWorldK grow putRowK putRow mapBlock Sort.ahead
    simp only
    rw [Array.getElem?_append_left (by simpa using hlt)]
    simp [Array.getElem?_modify, hg, onCells]
  have hcs : (putCells id 0 (flatK encE 3 d') cur).size = cap * 3 := by rw [← hs]; simp [putCells]
  generalize putCells id 0 (flatK encE 3 d') cur = c2 at hh hcs
  refine ⟨⟨?_, .inr ⟨g, cap, c2, rfl, hgb, hh, by simpa [hd] using hn, hm, hcs, ?_⟩⟩, esort_keeps w g n d' os⟩
  · rw [flatE_len]
  · apply List.ext_getElem?
    intro j
    by_cases hj : j < d'.toList.length * 3
    · rw [List.getElem?_take, if_pos hj]
      have hi : j / 3 < d'.toList.length := by omega
      have hf := flatE_at d'.toList (j / 3) hi (j % 3) (by omega)
      rw [show j / 3 * 3 + j % 3 = j by omega] at hf
      rw [hf]
      have hi2 : j / 3 < d'.size := by simpa using hi
      have c0 := (hH.cell (i := j / 3) (c := j % 3) hi2 (by omega)).1
      rw [show 0 + j / 3 * 3 + j % 3 = j by omega, getElem!_pos d' _ hi2] at c0
      have e : (sortWorldK encE 3 w g 0 n d' os).cell? ⟨g, j, none⟩ = c2[j]? := by unfold World.cell?; simp only; rw [hh]; rfl
      rw [e] at c0
      have hlt2 : j % 3 < (encE d'.toList[j / 3]).length := by show j % 3 < 3; omega
      rw [Array.getElem?_toList, c0, List.getElem?_eq_getElem hlt2]
      have e3 : d'[j / 3] = d'.toList[j / 3] := by simp
      rw [e3, getElem!_pos (encE d'.toList[j / 3]) _ hlt2]
    · rw [List.getElem?_eq_none (by rw [List.length_take]; omega), List.getElem?_eq_none (by rw [flatE_len]; omega)]
end Go.Proofs.Ytmagpbbjjkmbpaa
