/-
  Texts of this prover, merged: WayLaw, MapFrom, Way, RevLay, WayRow, WayFar, WayFnd, WayWs, WayNew, Tag, Hash, HashBig, WayStp, WayRun, PlacesFn.
-/
import Derived.Test.YtdbgfidnccpmdaaGreatKeeps
import Derived.Test.YtdbgfidnccpmdaaGreatMapPtr
import Derived.Test.YtdbgfidnccpmdaaGreatP1
import Derived.Test.YtdbgfidnccpmdaaGreatRows
import Derived.Test.YtdbgfidnccpmdaaGreatFnv
import Derived.Test.YtdbgfidnccpmdaaGreatLib
import Derived.Maps.Own
import Derived.Maps.OwnSet
import Derived.Deep.CutBlock
import Derived.Deep.DeepCutAuto
import Derived.Shelf.SlicesQ.Reverse
import Derived.Deep.RegionHeld2
import Derived.Carry
import Derived.Deep.QuietTactic
import Derived.BigQuiet
import Derived.Laws.EntriesVeiled
import Derived.Laws.AppendOwnNone
/-
  Ways: the search, as lists of nodes; the plain law.
-/
namespace Go.Proofs.YtdbgfidnccpmdaaGreat
set_option linter.unusedVariables false

/-- A node: its bucket, the node from which it was reached (-1: none), which of its slots. -/
abbrev Nd := Int × Int × Int
def bks (l : List Nd) : List Int := l.map (·.1)
def nd (l : List Nd) (i : Nat) : Nd := l.getD i (0, 0, 0)
def wadd (cap b : Int) (f : Int × Int) (l : List Nd) : List Nd := if (l.length : Int) < cap ∧ b ∉ bks l then l ++ [(b, f)] else l
def wexp (cap : Int) (o : Int → Nat → Int) (b : Int) (k : Nat) (l : List Nd) : List Nd := [0, 1, 2, 3].foldl (fun l s => wadd cap (o b s) ((k : Int), ((s : Nat) : Int)) l) l
/-- The way from a node's slot back, last spot first; so many spots at most. -/
def wpath (l : List Nd) : Nat → Nat → Int → List (Int × Int)
  | 0, _, _ => []
  | n + 1, i, s => ((nd l i).1, s) :: (if (nd l i).2.1 = -1 then [] else wpath l n (nd l i).2.1.toNat (nd l i).2.2)
def wway (l : List Nd) (k : Nat) (s : Int) : List (Int × Int) := (wpath l l.length k s).reverse
/-- A run from node k on: how many steps, the nodes, the way, is it over? -/
def wrun (cap : Int) (o : Int → Nat → Int) (fr : Int → Int) : Nat → Nat → List Nd → Nat × List Nd × List (Int × Int) × Bool
  | 0, k, l => (0, l, [], decide (l.length ≤ k))
  | n + 1, k, l => if l.length ≤ k then (0, l, [], true) else if 0 ≤ fr (nd l k).1 then (1, l, wway l k (fr (nd l k).1), true) else
      ((wrun cap o fr n (k + 1) (wexp cap o (nd l k).1 k l)).1 + 1, (wrun cap o fr n (k + 1) (wexp cap o (nd l k).1 k l)).2)
/-- Each node was reached from one ahead of it. -/
def Ahead (l : List Nd) : Prop := ∀ i, i < l.length → (nd l i).2.1 = -1 ∨ (0 ≤ (nd l i).2.1 ∧ (nd l i).2.1 < i)
theorem nd_app_left {l : List Nd} {i : Nat} (h : i < l.length) (r : List Nd) : nd (l ++ r) i = nd l i := by
  unfold nd; simp [List.getD_eq_getElem?_getD, List.getElem?_append_left h]
theorem nd_pre {l m : List Nd} (h : l <+: m) {i : Nat} (hi : i < l.length) : nd m i = nd l i := by
  obtain ⟨r, rfl⟩ := h; exact nd_app_left hi r
theorem nd_last (l : List Nd) (x : Nd) : nd (l ++ [x]) l.length = x := by unfold nd; simp [List.getD_eq_getElem?_getD]
theorem nd_mem {l : List Nd} {i : Nat} (h : i < l.length) : (nd l i).1 ∈ bks l := by
  unfold bks nd
  rw [List.getD_eq_getElem?_getD, List.getElem?_eq_getElem h]
  exact List.mem_map.2 ⟨l[i], List.getElem_mem h, rfl⟩
theorem nd_of_mem {l : List Nd} {b : Int} (h : b ∈ bks l) : ∃ i, i < l.length ∧ (nd l i).1 = b := by
  obtain ⟨x, hx, rfl⟩ := List.mem_map.1 h
  obtain ⟨i, hi, rfl⟩ := List.mem_iff_getElem.1 hx
  exact ⟨i, hi, by unfold nd; rw [List.getD_eq_getElem?_getD, List.getElem?_eq_getElem hi]; rfl⟩
theorem bks_app (l : List Nd) (b : Int) (f : Int × Int) : bks (l ++ [(b, f)]) = bks l ++ [b] := by simp [bks]
theorem bks_len (l : List Nd) : (bks l).length = l.length := by simp [bks]
theorem wadd_pre (cap b : Int) (f : Int × Int) (l : List Nd) : l <+: wadd cap b f l := by
  unfold wadd; split
  · exact List.prefix_append _ _
  · exact List.prefix_refl _
theorem fold_pre {α : Type} (g : List Nd → α → List Nd) (hg : ∀ l a, l <+: g l a) (xs : List α) : ∀ l, l <+: xs.foldl g l := by
  induction xs with
  | nil => intro l; exact List.prefix_refl _
  | cons a r ih => intro l; exact (hg l a).trans (ih _)
theorem wexp_pre (cap : Int) (o : Int → Nat → Int) (b : Int) (k : Nat) (l : List Nd) : l <+: wexp cap o b k l := fold_pre _ (fun l s => wadd_pre _ _ _ l) _ l
theorem wrun_pre (cap : Int) (o : Int → Nat → Int) (fr : Int → Int) : ∀ n k l, l <+: (wrun cap o fr n k l).2.1 := by
  intro n
  induction n with
  | zero => intro k l; exact List.prefix_refl _
  | succ n ih =>
    intro k l
    show l <+: (if l.length ≤ k then (0, l, [], true) else if 0 ≤ fr (nd l k).1 then _ else _ : Nat × List Nd × List (Int × Int) × Bool).2.1
    split
    · exact List.prefix_refl _
    · split
      · exact List.prefix_refl _
      · exact (wexp_pre cap o _ k l).trans (ih (k + 1) _)
/-! ## Something that a wadd keeps. -/
theorem wexp_keeps {P : List Nd → Prop} (cap : Int) (o : Int → Nat → Int) (b : Int) (k : Nat) (h : ∀ l, P l → ∀ s, s < 4 → (l.length : Int) < cap → o b s ∉ bks l → P (l ++ [(o b s, ((k : Int), (s : Int)))])) : ∀ l, P l → P (wexp cap o b k l) := by
  have one : ∀ l s, s < 4 → P l → P (wadd cap (o b s) ((k : Int), (s : Int)) l) := fun l s hs hl => by
    unfold wadd; split
    · rename_i hc; exact h l hl s hs hc.1 hc.2
    · exact hl
  intro l hl
  exact one _ 3 (by omega) (one _ 2 (by omega) (one _ 1 (by omega) (one _ 0 (by omega) hl)))
theorem ahead_add {l : List Nd} (h : Ahead l) (b : Int) (k : Nat) (hk : k < l.length) (s : Int) : Ahead (l ++ [(b, ((k : Int), s))]) := by
  intro i hi
  rw [List.length_append, List.length_singleton] at hi
  by_cases hil : i < l.length
  · rw [nd_app_left hil]; exact h i hil
  · obtain rfl : i = l.length := by omega
    rw [nd_last]
    exact .inr ⟨by simp, by simp; omega⟩
theorem ahead_exp (cap : Int) (o : Int → Nat → Int) (b : Int) (k : Nat) {l : List Nd} (h : Ahead l) (hk : k < l.length) : Ahead (wexp cap o b k l) := by
  refine (wexp_keeps (P := fun l => k < l.length ∧ Ahead l) cap o b k (fun l hl s _ _ _ => ⟨?_, ahead_add hl.2 _ k hl.1 _⟩) l ⟨hk, h⟩).2
  rw [List.length_append]; have := hl.1; omega
theorem wexp_cap (cap : Int) (o : Int → Nat → Int) (b : Int) (k : Nat) (l : List Nd) (m : Int) (hm : cap ≤ m) (h : (l.length : Int) ≤ m) : ((wexp cap o b k l).length : Int) ≤ m := by
  refine wexp_keeps (P := fun l => (l.length : Int) ≤ m) cap o b k (fun l hl s _ hc _ => ?_) l h
  rw [List.length_append, List.length_singleton]; omega
theorem wrun_cap (cap : Int) (o : Int → Nat → Int) (fr : Int → Int) (m : Int) (hm : cap ≤ m) : ∀ n k l, (l.length : Int) ≤ m → ((wrun cap o fr n k l).2.1.length : Int) ≤ m := by
  intro n
  induction n with
  | zero => intro k l h; exact h
  | succ n ih =>
    intro k l h
    show ((if l.length ≤ k then (0, l, [], true) else if 0 ≤ fr (nd l k).1 then _ else _ : Nat × List Nd × List (Int × Int) × Bool).2.1.length : Int) ≤ m
    split
    · exact h
    · split
      · exact h
      · exact ih _ _ (wexp_cap cap o _ k l m hm h)
/-- A path does not ask how many spots there may be, if there are enough. -/
theorem wpath_fuel {l m : List Nd} (h : l <+: m) (ha : Ahead l) : ∀ i, i < l.length → ∀ n n' s, i < n → i < n' → wpath m n i s = wpath l n' i s := by
  intro i
  induction i using Nat.strongRecOn with
  | _ i ih =>
    intro hi n n' s hn hn'
    obtain ⟨n, rfl⟩ : ∃ q, n = q + 1 := ⟨n - 1, by omega⟩
    obtain ⟨n', rfl⟩ : ∃ q, n' = q + 1 := ⟨n' - 1, by omega⟩
    unfold wpath
    rw [nd_pre h hi]
    congr 1
    split
    · rfl
    · rename_i h1
      rcases ha i hi with c | ⟨c1, c2⟩
      · exact absurd c h1
      · exact ih _ (by omega) (by omega) _ _ _ (by omega) (by omega)
theorem wway_pre {l m : List Nd} (h : l <+: m) (ha : Ahead l) (k : Nat) (hk : k < l.length) (s : Int) : wway m k s = wway l k s := by
  unfold wway
  rw [wpath_fuel h ha k hk m.length l.length s (Nat.lt_of_lt_of_le hk h.length_le) hk]
theorem wway_ne {l : List Nd} {k : Nat} (hk : k < l.length) (s : Int) : wway l k s ≠ [] := by
  unfold wway
  obtain ⟨n, hn⟩ : ∃ n, l.length = n + 1 := ⟨l.length - 1, by omega⟩
  rw [hn]; unfold wpath; simp
/-! ## More nodes at most. -/
def Wide (cap : Int) (x y : List Nd) : Prop := x <+: y ∧ (x = y ∨ cap ≤ x.length)
theorem bks_pre {x y : List Nd} (h : x <+: y) : bks x <+: bks y := h.map _
theorem wadd_wide {cap cap' b : Int} {f : Int × Int} {x y : List Nd} (hc : cap ≤ cap') (h : Wide cap x y) : Wide cap (wadd cap b f x) (wadd cap' b f y) := by
  obtain ⟨hp, h⟩ := h
  by_cases h1 : cap ≤ x.length
  · have e : wadd cap b f x = x := by unfold wadd; rw [if_neg (by omega)]
    rw [e]
    exact ⟨hp.trans (wadd_pre _ _ _ _), .inr h1⟩
  · rcases h with rfl | h
    · unfold wadd
      by_cases h2 : b ∈ bks x
      · rw [if_neg (fun c => c.2 h2), if_neg (fun c => c.2 h2)]; exact ⟨List.prefix_refl _, .inl rfl⟩
      · rw [if_pos ⟨by omega, h2⟩, if_pos ⟨by omega, h2⟩]; exact ⟨List.prefix_refl _, .inl rfl⟩
    · exact absurd h h1
theorem wexp_wide {cap cap' : Int} (o : Int → Nat → Int) (b : Int) (k : Nat) {x y : List Nd} (hc : cap ≤ cap') (h : Wide cap x y) : Wide cap (wexp cap o b k x) (wexp cap' o b k y) :=
  wadd_wide hc (wadd_wide hc (wadd_wide hc (wadd_wide hc h)))
/-- With more nodes at most a way is found again. -/
theorem wmore {cap cap' : Int} (o : Int → Nat → Int) (fr : Int → Int) (hc : cap ≤ cap') : ∀ n k x y, Wide cap x y → Ahead x →
    (wrun cap o fr n k x).2.1 <+: (wrun cap' o fr n k y).2.1 ∧ ((wrun cap o fr n k x).2.2.1 ≠ [] → (wrun cap' o fr n k y).2.2.1 = (wrun cap o fr n k x).2.2.1) ∧ ((wrun cap o fr n k x).2.2.1 = [] → cap ≤ (wrun cap o fr n k x).2.1.length ∨ (wrun cap' o fr n k y).2.2.1 = []) := by
  intro n
  induction n with
  | zero => intro k x y h ha; exact ⟨h.1, fun c => absurd rfl c, fun _ => .inr rfl⟩
  | succ n ih =>
    intro k x y h ha
    have ex : wrun cap o fr (n + 1) k x = if x.length ≤ k then (0, x, [], true) else if 0 ≤ fr (nd x k).1 then (1, x, wway x k (fr (nd x k).1), true) else
      ((wrun cap o fr n (k + 1) (wexp cap o (nd x k).1 k x)).1 + 1, (wrun cap o fr n (k + 1) (wexp cap o (nd x k).1 k x)).2) := rfl
    have ey : wrun cap' o fr (n + 1) k y = if y.length ≤ k then (0, y, [], true) else if 0 ≤ fr (nd y k).1 then (1, y, wway y k (fr (nd y k).1), true) else
      ((wrun cap' o fr n (k + 1) (wexp cap' o (nd y k).1 k y)).1 + 1, (wrun cap' o fr n (k + 1) (wexp cap' o (nd y k).1 k y)).2) := rfl
    by_cases hk : x.length ≤ k
    · rw [if_pos hk] at ex
      rw [ex]
      refine ⟨h.1.trans (wrun_pre cap' o fr (n + 1) k y), fun c => absurd rfl c, fun _ => ?_⟩
      rcases h.2 with rfl | h2
      · rw [if_pos hk] at ey; rw [ey]; exact .inr rfl
      · exact .inl h2
    · have hky : ¬ y.length ≤ k := by have := h.1.length_le; omega
      rw [if_neg hk] at ex
      rw [if_neg hky, nd_pre h.1 (by omega)] at ey
      by_cases hf : 0 ≤ fr (nd x k).1
      · rw [if_pos hf] at ex ey
        rw [ex, ey]
        exact ⟨h.1, fun _ => wway_pre h.1 ha k (by omega) _, fun c => absurd c (wway_ne (by omega) _)⟩
      · rw [if_neg hf] at ex ey
        rw [ex, ey]
        exact ih (k + 1) _ _ (wexp_wide o _ k hc h) (ahead_exp cap o _ k ha (by omega))
/-! ## Nodes are buckets of the table, each once. -/
structure Tab (N : Nat) (o : Int → Nat → Int) : Prop where
  o_in : ∀ (b : Int) (s : Nat), 0 ≤ b → b < N → s < 4 → 0 ≤ o b s ∧ o b s < N
structure WIn (N : Nat) (l : List Nd) : Prop where
  nodup : (bks l).Nodup
  rng : ∀ b ∈ bks l, 0 ≤ b ∧ b < N
theorem nodup_len : ∀ (N : Nat) (l : List Int), l.Nodup → (∀ b ∈ l, 0 ≤ b ∧ b < N) → l.length ≤ N := by
  intro N
  induction N with
  | zero =>
    intro l _ h
    cases l with
    | nil => exact Nat.le_refl _
    | cons a r => have := h a (by simp); omega
  | succ N ih =>
    intro l hn h
    have h1 := ih (l.filter (· ≠ (N : Int))) (hn.filter _) (fun b hb => by
      simp only [List.mem_filter, decide_eq_true_eq] at hb
      have := h b hb.1
      have h2 := hb.2
      simp only [ne_eq] at h2
      omega)
    have h2 : l.length ≤ (l.filter (· ≠ (N : Int))).length + 1 := by
      clear h h1
      induction l with
      | nil => simp
      | cons a r ih2 =>
        have hn2 := List.nodup_cons.1 hn
        by_cases ha : a = (N : Int)
        · subst ha
          have : r.filter (· ≠ (N : Int)) = r := List.filter_eq_self.2 fun x hx => by
            simp only [ne_eq, decide_eq_true_eq]
            intro c; subst c; exact hn2.1 hx
          rw [List.filter_cons_of_neg (by simp), this]; simp
        · have := ih2 hn2.2
          rw [List.filter_cons_of_pos (by simpa using ha)]
          simp only [List.length_cons]; omega
    omega
theorem WIn.len {N : Nat} {l : List Nd} (h : WIn N l) : l.length ≤ N := by rw [← bks_len]; exact nodup_len N _ h.nodup h.rng
theorem WIn.add {N : Nat} {l : List Nd} (h : WIn N l) {b : Int} (hb : 0 ≤ b ∧ b < N) (hn : b ∉ bks l) (f : Int × Int) : WIn N (l ++ [(b, f)]) := by
  constructor
  · rw [bks_app]
    exact List.nodup_append.2 ⟨h.nodup, by simp, fun a ha c hc => by
      simp only [List.mem_singleton] at hc
      subst hc; intro e; subst e; exact hn ha⟩
  · intro x hx
    rw [bks_app] at hx
    rcases List.mem_append.1 hx with hx | hx
    · exact h.rng x hx
    · simp only [List.mem_singleton] at hx; subst hx; exact hb
theorem WIn.full {N : Nat} {l : List Nd} (h : WIn N l) (hl : N ≤ l.length) {b : Int} (hb : 0 ≤ b ∧ b < N) : b ∈ bks l := by
  apply Classical.byContradiction
  intro hn
  have := (h.add hb hn (0, 0)).len
  rw [List.length_append, List.length_singleton] at this
  omega
theorem WIn.exp {N : Nat} {o : Int → Nat → Int} (ht : Tab N o) {cap b : Int} (hb : 0 ≤ b ∧ b < N) {k : Nat} {l : List Nd} (h : WIn N l) : WIn N (wexp cap o b k l) :=
  wexp_keeps (P := WIn N) cap o b k (fun l hl s hs _ hn => hl.add (ht.o_in b s hb.1 hb.2 hs) hn _) l h
/-- Where there may be as many nodes as buckets there may be more. -/
theorem wexp_caps {N : Nat} {o : Int → Nat → Int} (ht : Tab N o) {cap cap' b : Int} (h1 : (N : Int) ≤ cap) (h2 : (N : Int) ≤ cap') (hb : 0 ≤ b ∧ b < N) {k : Nat} {l : List Nd} (h : WIn N l) : wexp cap o b k l = wexp cap' o b k l := by
  have one : ∀ l s, s < 4 → WIn N l → wadd cap (o b s) ((k : Int), ((s : Nat) : Int)) l = wadd cap' (o b s) ((k : Int), ((s : Nat) : Int)) l ∧ WIn N (wadd cap (o b s) ((k : Int), ((s : Nat) : Int)) l) := fun l s hs hl => by
    have hi := ht.o_in b s hb.1 hb.2 hs
    unfold wadd
    by_cases hm : o b s ∈ bks l
    · rw [if_neg (fun c => c.2 hm), if_neg (fun c => c.2 hm)]; exact ⟨rfl, hl⟩
    · have hlen : l.length < N := by
        apply Classical.byContradiction
        intro c; exact hm (hl.full (by omega) hi)
      rw [if_pos ⟨by omega, hm⟩, if_pos ⟨by omega, hm⟩]; exact ⟨rfl, hl.add hi hm _⟩
  obtain ⟨a0, b0⟩ := one l 0 (by omega) h
  obtain ⟨a1, b1⟩ := one _ 1 (by omega) b0
  obtain ⟨a2, b2⟩ := one _ 2 (by omega) b1
  obtain ⟨a3, -⟩ := one _ 3 (by omega) b2
  show wadd cap _ _ (wadd cap _ _ (wadd cap _ _ (wadd cap _ _ l))) = wadd cap' _ _ (wadd cap' _ _ (wadd cap' _ _ (wadd cap' _ _ l)))
  rw [a3, a2, a1, a0]
theorem wrun_caps {N : Nat} {o : Int → Nat → Int} (fr : Int → Int) (ht : Tab N o) {cap cap' : Int} (h1 : (N : Int) ≤ cap) (h2 : (N : Int) ≤ cap') : ∀ n k l, WIn N l → wrun cap o fr n k l = wrun cap' o fr n k l := by
  intro n
  induction n with
  | zero => intro k l _; rfl
  | succ n ih =>
    intro k l h
    unfold wrun
    by_cases hk : l.length ≤ k
    · rw [if_pos hk, if_pos hk]
    · rw [if_neg hk, if_neg hk]
      by_cases hf : 0 ≤ fr (nd l k).1
      · rw [if_pos hf, if_pos hf]
      · have hb := h.rng _ (nd_mem (l := l) (i := k) (by omega))
        rw [if_neg hf, if_neg hf, ← wexp_caps ht h1 h2 hb h, ih (k + 1) _ (h.exp ht hb)]
/-- Steps and nodes. -/
theorem wrun_steps {N : Nat} {o : Int → Nat → Int} (fr : Int → Int) (ht : Tab N o) (cap : Int) : ∀ n k l, WIn N l → k ≤ l.length → N ≤ n + k → (wrun cap o fr n k l).2.2.2 = true ∧ (wrun cap o fr n k l).1 + k ≤ (wrun cap o fr n k l).2.1.length ∧ WIn N (wrun cap o fr n k l).2.1 := by
  intro n
  induction n with
  | zero =>
    intro k l h hk hn
    have := h.len
    exact ⟨decide_eq_true (by omega), by show 0 + k ≤ l.length; omega, h⟩
  | succ n ih =>
    intro k l h hk hn
    have e : wrun cap o fr (n + 1) k l = if l.length ≤ k then (0, l, [], true) else if 0 ≤ fr (nd l k).1 then (1, l, wway l k (fr (nd l k).1), true) else
      ((wrun cap o fr n (k + 1) (wexp cap o (nd l k).1 k l)).1 + 1, (wrun cap o fr n (k + 1) (wexp cap o (nd l k).1 k l)).2) := rfl
    rw [e]
    split
    · exact ⟨rfl, by show 0 + k ≤ l.length; omega, h⟩
    · split
      · exact ⟨rfl, by show 1 + k ≤ l.length; omega, h⟩
      · have hb := h.rng _ (nd_mem (l := l) (i := k) (by omega))
        have hp := (wexp_pre cap o (nd l k).1 k l).length_le
        obtain ⟨a1, a2, a3⟩ := ih (k + 1) _ (h.exp (cap := cap) (k := k) ht hb) (by omega) (by omega)
        exact ⟨a1, by simp only; omega, a3⟩
/-! ## Shortest. -/
/-- Nodes p to q - 1, one behind the other. -/
def wseg (cap : Int) (o : Int → Nat → Int) : Nat → Nat → List Nd → List Nd
  | 0, p, l => l
  | n + 1, p, l => wseg cap o n (p + 1) (wexp cap o (nd l p).1 p l)
theorem wseg_pre (cap : Int) (o : Int → Nat → Int) : ∀ n p l, l <+: wseg cap o n p l := by
  intro n
  induction n with
  | zero => intro p l; exact List.prefix_refl _
  | succ n ih => intro p l; exact (wexp_pre cap o _ p l).trans (ih _ _)
theorem wrun_seg (cap : Int) (o : Int → Nat → Int) (fr : Int → Int) : ∀ d m p l, p + d ≤ l.length → (∀ i, p ≤ i → i < p + d → ¬ 0 ≤ fr (nd l i).1) → wrun cap o fr (m + d) p l = ((wrun cap o fr m (p + d) (wseg cap o d p l)).1 + d, (wrun cap o fr m (p + d) (wseg cap o d p l)).2) := by
  intro d
  induction d with
  | zero => intro m p l _ _; rfl
  | succ d ih =>
    intro m p l hl hf
    have e : wrun cap o fr (m + (d + 1)) p l = if l.length ≤ p then (0, l, [], true) else if 0 ≤ fr (nd l p).1 then (1, l, wway l p (fr (nd l p).1), true) else
      ((wrun cap o fr (m + d) (p + 1) (wexp cap o (nd l p).1 p l)).1 + 1, (wrun cap o fr (m + d) (p + 1) (wexp cap o (nd l p).1 p l)).2) := rfl
    have hp := wexp_pre cap o (nd l p).1 p l
    rw [e, if_neg (by omega), if_neg (hf p (Nat.le_refl _) (by omega)), ih m (p + 1) _ (by have := hp.length_le; omega) (fun i h1 h2 => by rw [nd_pre hp (by omega)]; exact hf i (by omega) (by omega))]
    rw [show p + 1 + d = p + (d + 1) by omega]
    rfl
/-- What holds of a list of nodes: the first p of them are through. -/
structure WSh (N : Nat) (o : Int → Nat → Int) (fr : Int → Int) (a b : Int) (p : Nat) (l : List Nd) : Prop where
  win : WIn N l
  ahead : Ahead l
  root : ∀ i, i < l.length → (nd l i).2.1 = -1 → (nd l i).1 = a ∨ (nd l i).1 = b
  ab : a ∈ bks l ∧ b ∈ bks l
  edge : ∀ i, i < l.length → (nd l i).2.1 ≠ -1 → ∃ s : Nat, s < 4 ∧ (nd l i).2.2 = s ∧ o (nd l (nd l i).2.1.toNat).1 s = (nd l i).1 ∧ (nd l i).2.1.toNat < p
  full : ∀ i, i < p → ¬ 0 ≤ fr (nd l i).1
  shut : ∀ i, i < p → ∀ s, s < 4 → o (nd l i).1 s ∈ bks l
  le : p ≤ l.length
theorem wexp_has {N : Nat} {o : Int → Nat → Int} (ht : Tab N o) {cap b : Int} (hc : (N : Int) ≤ cap) (hb : 0 ≤ b ∧ b < N) {k : Nat} {l : List Nd} (h : WIn N l) : ∀ s, s < 4 → o b s ∈ bks (wexp cap o b k l) := by
  have one : ∀ l s, s < 4 → WIn N l → o b s ∈ bks (wadd cap (o b s) ((k : Int), ((s : Nat) : Int)) l) ∧ WIn N (wadd cap (o b s) ((k : Int), ((s : Nat) : Int)) l) := fun l s hs hl => by
    have hi := ht.o_in b s hb.1 hb.2 hs
    unfold wadd
    by_cases hm : o b s ∈ bks l
    · rw [if_neg (fun c => c.2 hm)]; exact ⟨hm, hl⟩
    · have hlen : l.length < N := by
        apply Classical.byContradiction
        intro c; exact hm (hl.full (by omega) hi)
      rw [if_pos ⟨by omega, hm⟩]; exact ⟨by rw [bks_app]; simp, hl.add hi hm _⟩
  obtain ⟨a0, b0⟩ := one l 0 (by omega) h
  obtain ⟨a1, b1⟩ := one _ 1 (by omega) b0
  obtain ⟨a2, b2⟩ := one _ 2 (by omega) b1
  obtain ⟨a3, b3⟩ := one _ 3 (by omega) b2
  have up : ∀ l s, bks l <+: bks (wadd cap (o b s) ((k : Int), ((s : Nat) : Int)) l) := fun l s => bks_pre (wadd_pre _ _ _ _)
  intro s hs
  rcases (show s = 0 ∨ s = 1 ∨ s = 2 ∨ s = 3 by omega) with rfl | rfl | rfl | rfl
  · exact (up _ 3).subset ((up _ 2).subset ((up _ 1).subset a0))
  · exact (up _ 3).subset ((up _ 2).subset a1)
  · exact (up _ 3).subset a2
  · exact a3
/-- What comes in by a node. -/
theorem wexp_new (cap : Int) (o : Int → Nat → Int) (b : Int) (k : Nat) (l : List Nd) : ∀ i, l.length ≤ i → i < (wexp cap o b k l).length → ∃ s : Nat, s < 4 ∧ nd (wexp cap o b k l) i = (o b s, ((k : Int), (s : Int))) := by
  have key := wexp_keeps (P := fun m => l <+: m ∧ ∀ i, l.length ≤ i → i < m.length → ∃ s : Nat, s < 4 ∧ nd m i = (o b s, ((k : Int), (s : Int)))) cap o b k (fun m hm s hs _ _ => ⟨hm.1.trans (List.prefix_append _ _), fun i h1 h2 => by
    rw [List.length_append, List.length_singleton] at h2
    by_cases hi : i < m.length
    · rw [nd_app_left hi]; exact hm.2 i h1 hi
    · obtain rfl : i = m.length := by omega
      rw [nd_last]; exact ⟨s, hs, rfl⟩⟩) l ⟨List.prefix_refl _, fun i h1 h2 => by omega⟩
  exact key.2
theorem WSh.exp {N : Nat} {o : Int → Nat → Int} {fr : Int → Int} {a b : Int} {p : Nat} {l : List Nd} (ht : Tab N o) {cap : Int} (hc : (N : Int) ≤ cap) (h : WSh N o fr a b p l) (hp : p < l.length) (hf : ¬ 0 ≤ fr (nd l p).1) : WSh N o fr a b (p + 1) (wexp cap o (nd l p).1 p l) := by
  have hb := h.win.rng _ (nd_mem hp)
  have hpre := wexp_pre cap o (nd l p).1 p l
  have hle := hpre.length_le
  have hnew := wexp_new cap o (nd l p).1 p l
  have hup := bks_pre hpre
  have hhas := wexp_has ht hc hb (k := p) h.win
  refine ⟨h.win.exp ht hb, ahead_exp cap o _ p h.ahead hp, fun i hi e => ?_, ⟨hup.subset h.ab.1, hup.subset h.ab.2⟩, fun i hi e => ?_, fun i hi => ?_, fun i hi s hs => ?_, by omega⟩
  · by_cases hil : i < l.length
    · rw [nd_pre hpre hil] at e ⊢; exact h.root i hil e
    · obtain ⟨s, _, hs⟩ := hnew i (by omega) hi
      rw [hs] at e; simp only at e; omega
  · by_cases hil : i < l.length
    · rw [nd_pre hpre hil] at e ⊢
      obtain ⟨s, h1, h2, h3, h4⟩ := h.edge i hil e
      exact ⟨s, h1, h2, by rw [nd_pre hpre (by have := h.le; omega)]; exact h3, by omega⟩
    · obtain ⟨s, hs4, hs⟩ := hnew i (by omega) hi
      rw [hs]
      exact ⟨s, hs4, rfl, by simp only [Int.toNat_natCast]; rw [nd_pre hpre hp], by simp⟩
  · by_cases hip : i < p
    · rw [nd_pre hpre (by omega)]; exact h.full i hip
    · obtain rfl : i = p := by omega
      rw [nd_pre hpre hp]; exact hf
  · by_cases hip : i < p
    · rw [nd_pre hpre (by omega)]; exact hup.subset (h.shut i hip s hs)
    · obtain rfl : i = p := by omega
      rw [nd_pre hpre hp]; exact hhas s hs
end Go.Proofs.YtdbgfidnccpmdaaGreat

/-
  A map from signed integers to pairs of integers that a call made: what it says at each key.
-/
namespace Go.Proofs.YtdbgfidnccpmdaaGreat
open Go.RowKit Go.Maps
set_option linter.unusedVariables false

def kF (a : Int) : Lit := .int .i64 a
theorem kF_key (a : Int) : WideAt.IsKeyLit (kF a) := trivial
def prD (p : Int × Int) : DataW Unit := .agg [.lit (.int .i64 p.1), .lit (.int .i64 p.2)]
def prV (p : Int × Int) : Value := .agg #[.int .i64 p.1, .int .i64 p.2]
def prR (v : Value) : Option (DataW Unit × List MemPlace) :=
  match v with
  | .agg ⟨[.int .i64 a, .int .i64 b]⟩ => some (prD (a, b), [])
  | _ => none
theorem prR_mk (p : Int × Int) : prR (prV p) = some (prD p, []) := rfl
theorem prR_inv {v : Value} {z : DataW Unit × List MemPlace} (h : prR v = some z) : ∃ p, v = prV p ∧ z = (prD p, []) := by
  unfold prR at h
  split at h
  · rename_i a b
    cases h
    exact ⟨(a, b), rfl, rfl⟩
  · cases h
theorem prD_inj {p q : Int × Int} (h : prD p = prD q) : p = q := by
  obtain ⟨a, b⟩ := p
  obtain ⟨c, d⟩ := q
  simpa [prD] using h
theorem zero_from (w : World) : (zeroValue 269).run Tryz.prog w = .ok (prV (0, 0)) w := by kernel_rfl
theorem int_keyedF : Keyed Tryz.prog 3 := int_keyed Tryz.underlying3
/-- Block m is a map of at most n entries; at key a it has the pair (f a), or none. -/
def MapF (w : World) (m n : Nat) (f : Int → Option (Int × Int)) : Prop :=
  ∃ D, w.ownsMap Tryz.prog 3 prR m n D ∧ (∀ a p, f a = some p → D.atKey (kF a) (prD (0, 0)) = prD p) ∧ ∀ a, Maps.has D (kF a) = (f a).isSome
theorem MapF.lt {w : World} {m n : Nat} {f : Int → Option (Int × Int)} (h : MapF w m n f) : m < w.heap.size := by obtain ⟨D, h, _⟩ := h; exact h.lt
theorem MapF.keep {w w' : World} {m n : Nat} {f : Int → Option (Int × Int)} (h : MapF w m n f) (hk : w'.heap[m]? = w.heap[m]?) : MapF w' m n f := by
  obtain ⟨D, ⟨es, clock, hb, r⟩, hf⟩ := h
  exact ⟨D, ⟨es, clock, hk.trans hb, r⟩, hf⟩
theorem MapF.below {w w' : World} {m n : Nat} {f : Int → Option (Int × Int)} (h : MapF w m n f) (hb : Below w.heap.size w w') : MapF w' m n f := h.keep (hb.block _ h.lt)
theorem MapF.mono {w : World} {m n n' : Nat} {f : Int → Option (Int × Int)} (h : MapF w m n f) (hn : n ≤ n') : MapF w m n' f := by
  obtain ⟨D, h, hf⟩ := h
  exact ⟨D, h.mono hn, hf⟩
theorem MapF.made (w : World) : MapF (w.alloc (.map #[] 0)) w.heap.size 0 fun _ => none :=
  ⟨.map [], World.ownsMap_made w _ _ _, fun a p h => (by cases h), fun a => rfl⟩
theorem MapF.blk {w : World} {m n : Nat} {f : Int → Option (Int × Int)} (h : MapF w m n f) : ∃ es cl, w.heap[m]? = some (.map es cl) := by
  obtain ⟨D, ⟨es, cl, hb, _⟩, _⟩ := h
  exact ⟨es, cl, hb⟩
/-- 'm[a]'. -/
theorem MapF.look {w : World} {m n : Nat} {f : Int → Option (Int × Int)} (h : MapF w m n f) {a : Int} (ha : (Lit.int .i64 a).wf = true) {p : Int × Int} (hp : f a = some p) :
    (Instr.lookup 265 (.map (some m)) (.int .i64 a) false).run Tryz.prog w = .ok (prV p) w := by
  obtain ⟨D, h, hf, _⟩ := h
  obtain ⟨v, ps, hr, hv⟩ := h.lookup int_keyedF Tryz.underlying265 (zero_from w) (prR_mk (0, 0)) (keyOf_int_mk Tryz.underlying3 ha)
  obtain ⟨o, rfl, ho⟩ := prR_inv hv
  have h1 := congrArg Prod.fst ho
  simp only at h1
  have h2 := (hf a p hp).symm.trans h1
  rw [prD_inj h2]
  exact hr
/-- '_, is := m[a]'. -/
theorem MapF.is {w : World} {m n : Nat} {f : Int → Option (Int × Int)} (h : MapF w m n f) {a : Int} (ha : (Lit.int .i64 a).wf = true) :
    ∃ p : Int × Int, (Instr.lookup 265 (.map (some m)) (.int .i64 a) true).run Tryz.prog w = .ok (.tuple #[.agg #[.int .i64 p.1, .int .i64 p.2], .bool (f a).isSome]) w := by
  obtain ⟨D, h, _, hh⟩ := h
  obtain ⟨v, ps, hr, hv⟩ := h.look_ok int_keyedF Tryz.underlying265 (zero_from w) (prR_mk (0, 0)) (keyOf_int_mk Tryz.underlying3 ha)
  rw [show Maps.has D (.int .i64 a) = (f a).isSome from hh a] at hr
  obtain ⟨p, rfl, -⟩ := prR_inv hv
  exact ⟨p, hr⟩
theorem MapF.put {w : World} {m n : Nat} {f : Int → Option (Int × Int)} (h : MapF w m n f) {a : Int} (ha : (Lit.int .i64 a).wf = true) (p : Int × Int) (hn : n < maxLen) :
    ∃ w', (Instr.mapUpdate 265 (.map (some m)) (.int .i64 a) (prV p)).run Tryz.prog w = .ok () w' ∧ MapF w' m (n + 1) (upd f a (some p)) ∧ w.grownBy w' (some m) := by
  obtain ⟨D, h, hf, hh⟩ := h
  obtain ⟨w', hr, ho, hg⟩ := h.update int_keyedF Tryz.underlying265 hn (keyOf_int_mk Tryz.underlying3 ha) (prR_mk p)
  refine ⟨w', hr, ⟨_, ho, fun x q hx => ?_, fun x => ?_⟩, hg⟩
  · by_cases e : x = a
    · subst e
      rw [upd_same] at hx
      cases hx
      exact atKey_put_same h.isMap (kF_key x) _ _
    · have hne : kF x ≠ kF a := fun c => e (by simpa [kF] using c)
      rw [upd_other _ e] at hx
      exact (atKey_put_other (D := D) (d := prD p) (z := prD (0, 0)) hne).trans (hf x q hx)
  · by_cases e : x = a
    · subst e
      rw [upd_same]; exact has_put_same h.isMap (kF_key x) _
    · have hne : kF x ≠ kF a := fun c => e (by simpa [kF] using c)
      rw [upd_other _ e]
      have e2 := has_put_other (D := D) (d := prD p) hne
      exact e2.trans (hh x)
/-- 'm[a] = p' at the operation. -/
theorem wpList_putf {w : World} {ops : Array Oper} {rest : List Oper} {o : Oper} {a : Act} {Q : Exit → Act → World → Prop} (hg : o.guard = none) (m x v : Operand) (hop : o.op = Op.mapUpdate 265 m x v)
    (b n : Nat) (f : Int → Option (Int × Int)) (hm : a.eval m = .map (some b)) (hM : MapF w b n f) (hn : n < maxLen) (k : Int) (p : Int × Int) (hx : a.eval x = .int .i64 k) (hv : a.eval v = .agg #[.int .i64 p.1, .int .i64 p.2]) (hk : (Lit.int .i64 k).wf = true)
    (hC : ∀ w', MapF w' b (n + 1) (upd f k (some p)) → w.grownBy w' (some b) → wpList Tryz.prog ops Q rest (a.put o.dst undef) w') :
    wpList Tryz.prog ops Q (o :: rest) a w := by
  refine wpList_plain hg fun K' hK' => ?_
  obtain ⟨w', hrun, r1, r2⟩ := hM.put hk p hn
  unfold prV at hrun
  unfold Oper.wp
  simp [execOp, hop, hm, hx, hv, hrun, Result.andThen]
  exact hK' _ _ (hC w' r1 r2)
end Go.Proofs.YtdbgfidnccpmdaaGreat

/-
  A Way: what lies in memory; what is told of it; a node more.
-/
namespace Go.Proofs.YtdbgfidnccpmdaaGreat
open Go.RowKit Go.Maps
set_option linter.unusedVariables false

/-- A Way's words. -/
structure WY where
  bits : Int
  most : Int
  l : List Nd
  at_ : Nat
  way : List (Int × Int)
  over : Bool
  made : Bool
  kb : Nat
  mo : Option Nat
def WY.cells (x : WY) (vb vw : Value) : Array Value := #[.int .i64 x.bits, .int .i64 x.most, vb, .map x.mo, .int .i64 x.at_, vw, .bool x.over, .bool x.made]
def backF (l : List Nd) (b : Int) : Option (Int × Int) := (l.find? (·.1 == b)).map (·.2)
def flatS (bits : Int) (l : List (Int × Int)) : List Value := l.flatMap fun p => [.int .i64 bits, .int .i64 p.1, .int .i64 p.2]
/-- A node more, if it is none yet. -/
def nodeL (b : Int) (f : Int × Int) (l : List Nd) : List Nd := if b ∈ bks l then l else l ++ [(b, f)]
def intV (l : List Int) : List Value := l.map (Value.int .i64)
/-- The block of a row; the Way's own number, where there is none. -/
def KbOk (v : Value) (kb xb : Nat) : Prop := v.ownBlock = some kb ∨ (v.ownBlock = none ∧ kb = xb)
structure WayAt (w : World) (lo xb : Nat) (x : WY) : Prop where
  low : lo ≤ xb
  ex : ∃ vb vw, w.heap[xb]? = some (.cells (x.cells vb vw) 267 (0, 0)) ∧ w.ownsRow lo 3 1 vb x.l.length (intV (bks x.l)) ∧ w.ownsRow lo 43 3 vw x.way.length (flatS x.bits x.way) ∧ KbOk vb x.kb xb
  mp : ∀ m, x.mo = some m → lo ≤ m ∧ MapF w m x.l.length (backF x.l)
  isMap : x.made = true → ∃ m, x.mo = some m
  noWay : x.way = [] → w.cell? ⟨xb, 5, none⟩ = some (.slice none 0 0)
def yTy (T : TypeId) : Bool := T == 267 || T == 3 || T == 43
theorem flatS_len (b : Int) (l : List (Int × Int)) : (flatS b l).length = l.length * 3 := by
  induction l with
  | nil => rfl
  | cons p l ih => unfold flatS at ih ⊢; simp only [List.flatMap_cons, List.length_append, List.length_cons, List.length_nil, ih]; omega
section
variable {w w' : World} {lo xb : Nat} {x : WY}
theorem WayAt.fr {K : TypeId → Bool} (h : WayAt w lo xb x) (hf : Fr K false w w') (hK : ∀ T, yTy T = true → K T = false) : WayAt w' lo xb x := by
  obtain ⟨h0, ⟨vb, vw, h1, h2, h3, h4⟩, h5, h6, h7⟩ := h
  refine ⟨h0, ⟨vb, vw, hf.cells _ _ _ _ h1 (hK _ rfl), own_fr h2 hf (hK _ rfl), own_fr h3 hf (hK _ rfl), h4⟩, fun m hm => ⟨(h5 m hm).1, ?_⟩, h6, fun e => by have := h7 e; rw [hcell h1] at this; rw [hcell (hf.cells _ _ _ _ h1 (hK _ rfl))]; exact this⟩
  obtain ⟨es, cl, hb⟩ := (h5 m hm).2.blk
  exact (h5 m hm).2.keep ((hf.map rfl _ _ _ hb).trans hb.symm)
/-- .. where maps may have turned, this one not. -/
theorem WayAt.frm {K : TypeId → Bool} {mp : Bool} (h : WayAt w lo xb x) (hf : Fr K mp w w') (hK : ∀ T, yTy T = true → K T = false) (hm : ∀ m, x.mo = some m → w'.heap[m]? = w.heap[m]?) : WayAt w' lo xb x := by
  obtain ⟨h0, ⟨vb, vw, h1, h2, h3, h4⟩, h5, h6, h7⟩ := h
  exact ⟨h0, ⟨vb, vw, hf.cells _ _ _ _ h1 (hK _ rfl), own_fr h2 hf (hK _ rfl), own_fr h3 hf (hK _ rfl), h4⟩, fun m hm2 => ⟨(h5 m hm2).1, (h5 m hm2).2.keep (hm m hm2)⟩, h6, fun e => by have := h7 e; rw [hcell h1] at this; rw [hcell (hf.cells _ _ _ _ h1 (hK _ rfl))]; exact this⟩
theorem WayAt.below (h : WayAt w lo xb x) (hb : Below w.heap.size w w') : WayAt w' lo xb x := h.fr (below_fr hb (fun _ => false) false) (fun _ _ => rfl)
theorem WayAt.lt (h : WayAt w lo xb x) : xb < w.heap.size := by obtain ⟨_, ⟨va, vv, h1, _⟩, _⟩ := h; exact (Array.getElem?_eq_some_iff.1 h1).1
end
theorem wy_cells {W : World} {q : Nat} {x : WY} {vb vw : Value} (z : W.heap[q]? = some (.cells (x.cells vb vw) 267 (0, 0))) :
    W.cell? ⟨q, 0, none⟩ = some (.int .i64 x.bits) ∧ W.cell? ⟨q, 1, none⟩ = some (.int .i64 x.most) ∧ W.cell? ⟨q, 2, none⟩ = some vb ∧ W.cell? ⟨q, 3, none⟩ = some (.map x.mo) ∧ W.cell? ⟨q, 4, none⟩ = some (.int .i64 x.at_) ∧ W.cell? ⟨q, 5, none⟩ = some vw ∧ W.cell? ⟨q, 6, none⟩ = some (.bool x.over) ∧ W.cell? ⟨q, 7, none⟩ = some (.bool x.made) :=
  ⟨hcell z 0, hcell z 1, hcell z 2, hcell z 3, hcell z 4, hcell z 5, hcell z 6, hcell z 7⟩
/-- Is it over? -/
theorem wover {w : World} {lo xb : Nat} {x : WY} (h : WayAt w lo xb x) : Calls Tryz.prog 252 #[.pointer (some ⟨xb, 0, none⟩)] w fun e w' => e = .returned (.bool (!x.made || x.over)) ∧ w' = w := by
  obtain ⟨_, ⟨vb, vw, h1, -⟩, -⟩ := h
  obtain ⟨-, -, -, -, -, -, c6, c7⟩ := wy_cells h1
  clear h1
  generalize x.over = o at *
  generalize x.made = m at *
  cases m <;> cases o
  all_goals
    go_enter Tryz.func252, Tryz.ntmps252
    go_wp2
    go_ret
    exact ⟨rfl, rfl⟩
theorem wover_nil (w : World) : Calls Tryz.prog 252 #[.pointer none] w fun e w' => e = .returned (.bool true) ∧ w' = w := by
  go_enter Tryz.func252, Tryz.ntmps252
  go_wp2
  go_ret
  exact ⟨rfl, rfl⟩
theorem own_sl3 {w : World} {base e size : Nat} {v : Value} {n : Nat} {xs : List Value} (h : w.ownsRow base e size v n xs) : ∃ a cap, v = .slice a n cap ∧ cap ≤ maxLen := by
  obtain ⟨_, ⟨rfl, rfl⟩ | ⟨g, cap, cur, rfl, _, _, _, hm, _⟩⟩ := h
  · exact ⟨none, 0, rfl, Nat.zero_le _⟩
  · exact ⟨_, cap, rfl, hm⟩
/-! ## A node more. -/
theorem backF_none {l : List Nd} {b : Int} (h : b ∉ bks l) : backF l b = none := by
  unfold backF
  rw [List.find?_eq_none.2 (fun x hx c => h (by rw [← beq_iff_eq.1 c]; exact List.mem_map.2 ⟨x, hx, rfl⟩))]; rfl
theorem backF_isSome (l : List Nd) (b : Int) : (backF l b).isSome = decide (b ∈ bks l) := by
  by_cases h : b ∈ bks l
  · rw [decide_eq_true h]
    obtain ⟨x, hx, rfl⟩ := List.mem_map.1 h
    unfold backF
    rw [Option.isSome_map]
    exact List.find?_isSome.2 ⟨x, hx, by simp⟩
  · rw [decide_eq_false h, backF_none h]; rfl
theorem backF_snoc {l : List Nd} {b : Int} (h : b ∉ bks l) (f : Int × Int) : backF (l ++ [(b, f)]) = upd (backF l) b (some f) := by
  funext a
  by_cases ha : a = b
  · subst ha
    rw [upd_same]
    unfold backF
    rw [List.find?_append, List.find?_eq_none.2 (fun x hx c => h (by rw [← beq_iff_eq.1 c]; exact List.mem_map.2 ⟨x, hx, rfl⟩))]
    simp
  · rw [upd_other _ ha]
    unfold backF
    rw [List.find?_append]
    have : ([(b, f)] : List Nd).find? (·.1 == a) = none := by
      simp only [List.find?_cons, List.find?_nil]
      rw [show (b == a) = false from beq_eq_false_iff_ne.2 fun c => ha c.symm]
    rw [this, Option.or_none]
/-- What backs says of a node. -/
theorem backF_at {l : List Nd} (h : (bks l).Nodup) {i : Nat} (hi : i < l.length) : backF l (nd l i).1 = some (nd l i).2 := by
  induction l generalizing i with
  | nil => simp at hi
  | cons x r ih =>
    have hn := List.nodup_cons.1 (show (x.1 :: bks r).Nodup from h)
    cases i with
    | zero => simp [backF, nd]
    | succ i =>
      have hi2 : i < r.length := by simpa using hi
      have e : nd (x :: r) (i + 1) = nd r i := by simp [nd, List.getD_eq_getElem?_getD]
      rw [e]
      have hne : x.1 ≠ (nd r i).1 := fun c => hn.1 (by rw [c]; exact nd_mem hi2)
      have := ih hn.2 hi2
      unfold backF at this ⊢
      rw [List.find?_cons, show (x.1 == (nd r i).1) = false from beq_eq_false_iff_ne.2 hne]
      exact this
theorem intV_snoc (l : List Nd) (b : Int) (f : Int × Int) : intV (bks (l ++ [(b, f)])) = intV (bks l) ++ [.int .i64 b] := by simp [intV, bks]
/-- Which blocks a node turns. -/
def NSet (xb kb m : Nat) (k : Nat) : Prop := k = xb ∨ k = kb ∨ k = m
theorem info_int1 : (Tryz.prog.info? 3).map (fun i => (i.zero, i.size, i.bytes)) = some (some (.int .i64 0), 1, 8) := by kernel_rfl
theorem grown_keeps {w w' : World} {r : Option Nat} (h : w.grownBy w' r) : Keeps (fun k => r = some k) w w' := ⟨h.os, h.tape, h.output, h.size, fun k hk hn => h.block k hk (fun c => hn c.symm)⟩
theorem keeps_mp {S : Nat → Prop} {w w' : World} {m n : Nat} {f : Int → Option (Int × Int)} (h : MapF w m n f) (hk : Keeps S w w') (hn : ¬ S m) : MapF w' m n f := h.keep (hk.block m h.lt hn)
theorem own_keepsS {S : Nat → Prop} {w w' : World} {base e size n : Nat} {v : Value} {xs : List Value} (h : w.ownsRow base e size v n xs) (hk : Keeps S w w') (hn : ∀ k, v.ownBlock = some k → ¬ S k) : w'.ownsRow base e size v n xs := by
  obtain ⟨h1, h2 | ⟨g, cap, cur, rfl, hb, hg, r⟩⟩ := h
  · exact ⟨h1, .inl h2⟩
  · exact ⟨h1, .inr ⟨g, cap, cur, rfl, hb, (hk.block g (Array.getElem?_eq_some_iff.1 hg).1 (hn g rfl)).trans hg, r⟩⟩
theorem own_blk {w : World} {base e size n : Nat} {v : Value} {xs : List Value} (h : w.ownsRow base e size v n xs) {k : Nat} (hk : v.ownBlock = some k) : ∃ cur, w.heap[k]? = some (.cells cur e (0, 0)) := by
  obtain ⟨h1, ⟨rfl, _⟩ | ⟨g, cap, cur, rfl, hb, hg, r⟩⟩ := h
  · cases hk
  · simp only [Value.ownBlock, Option.some.injEq] at hk
    subst hk; exact ⟨cur, hg⟩
theorem map_ne_cells {w : World} {m k : Nat} {es : Array MapEntry} {cl : Nat} {cs : Array Value} {T : TypeId} {fr : Nat × Nat} (h1 : w.heap[m]? = some (.map es cl)) (h2 : w.heap[k]? = some (.cells cs T fr)) : m ≠ k := fun e => by subst e; rw [h1] at h2; cases h2
theorem cells_ne {w : World} {m k : Nat} {cs cs' : Array Value} {T T' : TypeId} {fr fr' : Nat × Nat} (h1 : w.heap[m]? = some (.cells cs T fr)) (h2 : w.heap[k]? = some (.cells cs' T' fr')) (hT : T ≠ T') : m ≠ k := fun e => by
  subst e; rw [h1] at h2; simp only [Option.some.injEq, Obj.cells.injEq] at h2; exact hT h2.2.1
set_option maxRecDepth 10000 in
set_option maxHeartbeats 2000000 in
theorem node_any {w : World} {lo xb m : Nat} {x : WY} (h : WayAt w lo xb x) (hlo : lo ≤ w.heap.size) (hm : x.mo = some m) (hl : x.l.length ≤ 100000) (b : Int) (hb : (Lit.int .i64 b).wf = true) (f : Int × Int) :
    Calls Tryz.prog 136 #[.pointer (some ⟨xb, 0, none⟩), .int .i64 b, .agg #[.int .i64 f.1, .int .i64 f.2]] w fun e w' => e = .returned (.tuple #[]) ∧ ∃ kb, WayAt w' lo xb { x with l := nodeL b f x.l, kb := kb } ∧ Keeps (NSet xb x.kb m) w w' ∧ (kb = x.kb ∨ w.heap.size ≤ kb) := by
  obtain ⟨f1, f2⟩ := f
  obtain ⟨h0, ⟨vb, vw, h1, h2, h3, h4⟩, h5, h6, h7⟩ := h
  have h7 : x.way = [] → vw = .slice none 0 0 := fun e => by have := h7 e; rw [hcell h1] at this; exact Option.some.inj this
  obtain ⟨hlm, hmp⟩ := h5 m hm
  obtain ⟨i0, hi0, hz0, hz1, hz2⟩ := info_parts info_int1
  obtain ⟨a, cap, hvb, hcap⟩ := own_sl3 h2
  obtain ⟨es, cl, hmb⟩ := hmp.blk
  have hmx : m ≠ xb := map_ne_cells hmb h1
  have hvk : ∀ k, vb.ownBlock = some k → k = x.kb := fun k hk => by rcases h4 with h | ⟨h, _⟩ <;> rw [h] at hk <;> cases hk; rfl
  have hkx : ∀ k, vb.ownBlock = some k → k ≠ xb ∧ k ≠ m := fun k hk => by
    obtain ⟨cur, hc⟩ := own_blk h2 hk
    exact ⟨cells_ne hc h1 (by decide), (map_ne_cells hmb hc).symm⟩
  have hwk : ∀ k, vw.ownBlock = some k → k ≠ xb ∧ k ≠ m ∧ (vb.ownBlock ≠ some k) := fun k hk => by
    obtain ⟨cur, hc⟩ := own_blk h3 hk
    refine ⟨cells_ne hc h1 (by decide), (map_ne_cells hmb hc).symm, fun e => ?_⟩
    obtain ⟨cur2, hc2⟩ := own_blk h2 e
    exact cells_ne hc hc2 (by decide) rfl
  have HI := Lib.hid hi0; have HZ0 := Lib.hid hz0; have HZ1 := Lib.hid hz1; have HZ2 := Lib.hid hz2
  clear hi0 hz0 hz1 hz2
  -- the box
  have hb1 := below_alloc w (.cells #[.int .i64 f1, .int .i64 f2] 269)
  have hzb := heap_alloc_new w (.cells #[.int .i64 f1, .int .i64 f2] 269)
  have g1 := (hb1.block _ (Array.getElem?_eq_some_iff.1 h1).1).trans h1
  obtain ⟨p, hlk⟩ := (hmp.below hb1).is hb
  rw [backF_isSome] at hlk
  obtain ⟨d, hd⟩ : ∃ d, d = decide (b ∈ bks x.l) := ⟨_, rfl⟩
  rw [← hd] at hlk
  have c3 : (w.alloc (.cells #[.int .i64 f1, .int .i64 f2] 269)).cell? ⟨xb, 3, none⟩ = some (.map (some m)) := by rw [← hm]; exact hcell g1 3
  have HB1 := Lib.hid hb1; have HZB := Lib.hid hzb; have G1 := Lib.hid g1; have H2 := Lib.hid (own_fr h2 (below_fr hb1 (fun _ => false) false) rfl); have H3 := Lib.hid (own_fr h3 (below_fr hb1 (fun _ => false) false) rfl); have H4 := Lib.hid h4; have H6 := Lib.hid h6; have H7 := Lib.hid h7; have HM := Lib.hid hm; have HMP := Lib.hid (hmp.below hb1); have HLO := Lib.hid hlo; have HL := Lib.hid hl; have HVB := Lib.hid hvb; have H0 := Lib.hid (And.intro h0 hlm); have HBW := Lib.hid hb; have HD := Lib.hid hd; have HMX := Lib.hid hmx; have HVK := Lib.hid hvk; have HKX := Lib.hid hkx; have HWK := Lib.hid hwk; have HLT := Lib.hid (Array.getElem?_eq_some_iff.1 h1).1; have HMT := Lib.hid hmp.lt
  clear h0 h1 h2 h3 h4 h5 h6 h7 hlm hmp hvb hb1 hzb g1 hlo hl hb hd hm hmb hmx hvk hkx hwk
  go_enter Tryz.func136, Tryz.ntmps136
  go_upto_region 1 with (fail)
  change Code.wp _ _ _ _ (w.alloc (.cells #[.int .i64 f1, .int .i64 f2] 269))
  generalize w.alloc (.cells #[.int .i64 f1, .int .i64 f2] 269) = w1 at *
  obtain ⟨bq, hbq⟩ : ∃ bq, bq = w.heap.size := ⟨_, rfl⟩
  rw [← hbq] at HZB
  simp only [← hbq]
  have HBQ := Lib.hid hbq
  clear hbq
  go_upto_region 2 with (fail)
  have hb2 := below_alloc w1 (.cells #[.int .i64 p.1, .int .i64 p.2] 269)
  change Code.wp _ _ _ _ (w1.alloc (.cells #[.int .i64 p.1, .int .i64 p.2] 269))
  have HB2 : Hid (Below w.heap.size w (w1.alloc (.cells #[.int .i64 p.1, .int .i64 p.2] 269))) := HB1.out.trans (hb2.mono HB1.out.size)
  have G2 := Lib.hid ((hb2.block _ (Array.getElem?_eq_some_iff.1 G1.out).1).trans G1.out)
  have K2 := Lib.hid (own_fr H2.out (below_fr hb2 (fun _ => false) false) rfl)
  have L2 := Lib.hid (own_fr H3.out (below_fr hb2 (fun _ => false) false) rfl)
  have M2 := Lib.hid (HMP.out.below hb2)
  have Z2 := Lib.hid ((hb2.block _ (Array.getElem?_eq_some_iff.1 HZB.out).1).trans HZB.out)
  clear c3 hlk hb2 HB1 G1 H2 H3 HMP HZB
  generalize w1.alloc (.cells #[.int .i64 p.1, .int .i64 p.2] 269) = w2 at *
  cases d
  rotate_left
  · go_wp2
    go_end0
    have hmem : b ∈ bks x.l := of_decide_eq_true HD.out.symm
    refine ⟨rfl, x.kb, ?_, below_keeps HB2.out _, .inl rfl⟩
    rw [show nodeL b (f1, f2) x.l = x.l from if_pos hmem]
    exact ⟨H0.out.1, ⟨vb, vw, G2.out, K2.out, L2.out, H4.out⟩, fun m' hm' => by
      rw [HM.out] at hm'
      cases hm'
      exact ⟨H0.out.2, M2.out⟩, H6.out, fun e => by rw [hcell G2.out]; exact congrArg some (H7.out e)⟩
  · have hnm : b ∉ bks x.l := of_decide_eq_false HD.out.symm
    have c3 : w2.cell? ⟨xb, 3, none⟩ = some (.map (some m)) := by rw [← HM.out]; exact hcell G2.out 3
    have x3 := fun st : ExtW w2 => st.cell c3
    have x5 := fun st : ExtW w2 => st.cell (hcell Z2.out 0)
    have x6 := fun st : ExtW w2 => st.cell (hcell Z2.out 1)
    clear c3
    go_upto_region 3 with (fail)
    refine wp_region_ext_tail 6 (by kernel_rfl) (by kernel_rfl) ?_
    simp only [List.take_succ_cons, List.take_zero, List.drop_succ_cons, List.drop_zero]
    repeat (go_big_quiet_step (fail))
    refine wpQuiet_nil ?_
    rintro W ⟨⟨W2, hW⟩, rfl⟩
    clear x3 x5 x6
    have MW := Lib.hid (M2.out.below hW)
    have HWB := Lib.hid hW
    clear hW
    go_upto_region 4 with (at_mapUpdate; refine wpList_putf rfl _ _ _ rfl m x.l.length (backF x.l) rfl MW.out (by have := HL.out; unfold maxLen; omega) b (f1, f2) rfl rfl HBW.out ?_; intro w4 hm9 hg9; have M4 := Lib.hid hm9; have G4 := Lib.hid (grown_keeps hg9); clear hm9 hg9)
    have hGx := Lib.hid ((G4.out.block xb (Nat.lt_of_lt_of_le (Array.getElem?_eq_some_iff.1 G2.out).1 HWB.out.size) (fun c => HMX.out (by cases c; rfl))).trans ((HWB.out.block _ (Array.getElem?_eq_some_iff.1 G2.out).1).trans G2.out))
    have hK4 := Lib.hid (own_keepsS (own_fr K2.out (below_fr HWB.out (fun _ => false) false) rfl) G4.out (fun k hk c => (HKX.out k hk).2 (by cases c; rfl)))
    have hL4 := Lib.hid (own_keepsS (own_fr L2.out (below_fr HWB.out (fun _ => false) false) rfl) G4.out (fun k hk c => (HWK.out k hk).2.1 (by cases c; rfl)))
    have hW4 : Hid (Keeps (NSet xb x.kb m) w w4) := ((below_keeps (HB2.out.trans (HWB.out.mono HB2.out.size)) (NSet xb x.kb m)).trans G4.out).mono fun k hk c => by
      rcases c with c | c
      · exact c
      · cases c; exact .inr (.inr rfl)
    have hs4 : Hid (lo ≤ w4.heap.size) := Nat.le_trans HLO.out hW4.out.size
    have c2 : w4.cell? ⟨xb, 2, none⟩ = some (.slice a x.l.length cap) := by rw [← HVB.out]; exact hcell hGx.out 2
    clear MW HWB K2 L2 M2 Z2 G2 HB2 G4
    go_wp2_with (at_builtin; refine wpList_append_lies _ rfl _ _ 103 rfl lo 3 i0 (.int .i64 0) 1 8 Tryz.underlying103 HI.out HZ0.out HZ1.out HZ2.out rfl (by decide) (.slice a x.l.length cap) x.l.length (intV (bks x.l)) rfl (by rw [← HVB.out]; exact hK4.out.alloc _) ⟨w4.heap.size, 0, none⟩ 1 1 [.int .i64 b] rfl rfl ?c1 ?c2 (by decide) ?c3 ?c4 ?c5 (w4.heap.size + 1) (by simp) ?_)
    case c1 => exact World.news_of_block (heap_alloc_new w4 _)
    case c2 => simp [Value.oneCell']
    case c3 => have := HL.out; unfold maxLen; omega
    case c4 => have := HL.out; omega
    case c5 => have := hs4.out; simp; omega
    intro kb c6 w6 hown' hgrow hkb hlt6
    have hb5 := below_alloc w4 (.cells #[.int .i64 b] 3)
    have gk := grown_keeps hgrow
    rw [← HVB.out] at gk hkb
    have hx5 := (hb5.block _ (Array.getElem?_eq_some_iff.1 hGx.out).1).trans hGx.out
    have hx6 := (gk.block xb (Array.getElem?_eq_some_iff.1 hx5).1 (fun c => (HKX.out xb c).1 rfl)).trans hx5
    have hM6 := keeps_mp (M4.out.below hb5) gk (fun c => (HKX.out m c).2 rfl)
    have hL6 := own_keepsS (own_fr hL4.out (below_fr hb5 (fun _ => false) false) rfl) gk (fun k hk c => (HWK.out k hk).2.2 c)
    have hW6 : Keeps (NSet xb x.kb m) w w6 := (((hW4.out.trans (below_keeps hb5 (NSet xb x.kb m))).trans gk).mono fun k hk c => by
      rcases c with (c | c) | c
      · exact c
      · exact c
      · exact .inr (.inl (HVK.out k c)))
    have hkb2 : kb = x.kb ∨ w.heap.size ≤ kb := by
      rcases hkb with h | h
      · exact .inl (HVK.out kb h)
      · have := hW4.out.size; exact .inr (by omega)
    have hwb : ∀ k, vw.ownBlock = some k → k ≠ xb := fun k hk => (HWK.out k hk).1
    have hkx2 : kb ≠ xb := by
      rcases hkb with h | h
      · exact (HKX.out kb h).1
      · have := HLT.out; have := hW4.out.size; omega
    have hfz : w6.frozen? ⟨xb, 2, none⟩ = false := hfrz hx6 2
    have c2' : w6.cell? ⟨xb, 2, none⟩ = some (.slice a x.l.length cap) := by rw [← HVB.out]; exact hcell hx6 2
    have fin : Hid (WayAt (w6.setCell ⟨xb, 2, none⟩ (.slice (some ⟨kb, 0, none⟩) (x.l.length + 1) c6)) lo xb { x with l := nodeL b (f1, f2) x.l, kb := kb } ∧ Keeps (NSet xb x.kb m) w (w6.setCell ⟨xb, 2, none⟩ (.slice (some ⟨kb, 0, none⟩) (x.l.length + 1) c6))) := by
      have hk := setCell_keeps w6 xb 2 (.slice (some ⟨kb, 0, none⟩) (x.l.length + 1) c6)
      have en : nodeL b (f1, f2) x.l = x.l ++ [(b, (f1, f2))] := if_neg hnm
      refine ⟨⟨H0.out.1, ⟨.slice (some ⟨kb, 0, none⟩) (x.l.length + 1) c6, vw, setCell_same hx6 2 _, ?_, own_keepsS hL6 hk (fun k hk c => hwb k hk c), .inl rfl⟩, fun m' hm' => ?_, H6.out, fun e => by rw [hcell (setCell_same hx6 2 _)]; exact congrArg some (H7.out e)⟩, (hW6.trans hk).mono fun k _ c => by rcases c with c | c; exact c; exact .inl c⟩
      · simp only [en, List.length_append, List.length_singleton, intV_snoc]
        exact own_keepsS hown' hk (fun k hk c => by simp only [Value.ownBlock, Option.some.injEq] at hk; subst hk; exact hkx2 c)
      · simp only at hm'
        rw [HM.out] at hm'
        cases hm'
        refine ⟨H0.out.2, ?_⟩
        simp only [en, List.length_append, List.length_singleton, backF_snoc hnm]
        exact keeps_mp hM6 hk (fun c => HMX.out c)
    have HK2 := Lib.hid hkb2
    clear hown' hgrow hkb hlt6 hb5 gk hx5 hM6 hL6 hW6 hkb2 hwb hkx2 hx6 c2
    go_wp2
    go_end0
    exact ⟨rfl, kb, fin.out.1, fin.out.2, HK2.out⟩
end Go.Proofs.YtdbgfidnccpmdaaGreat

/-
  DERIVED: THE SHELF's CONTRACTS AT THIS DUMP, IN PLAIN WORDS (tools/lay-plain.mjs out of 'YtdbgfidnccpmdaaGreatRevLaySrc.lean', which tools/lay-shelf.mjs wrote): THE SAME DECLARATIONS UNDER THE SAME NAMES: 'import', 'namespace', 'open', 'def', 'theorem' AND NOTHING ELSE: no command of the shelf's: FOR A HAND-IN. Each laying: the table of numbers ('.._ren') and one theorem, a field a fact of the dump's own or the kernel's comparison; each contract: ONE APPLICATION.
-/
namespace Go.Proofs.YtdbgfidnccpmdaaGreat
open Go.Shelf
def revS_ren : Go.Shelf.Ren := ⟨fun | 35 => 263 | n => n, fun | 22 => 145 | 23 => 43 | 3 => 3 | 4 => 4 | 0 => 0 | n => n, fun | n => n⟩
theorem revS : Go.Proofs.SlLaysE0.n35 Tryz.prog revS_ren := {
  mixed := by kernel_rfl
  f35 := ⟨Tryz.f263.name, by decide, Tryz.func263.trans (congrArg some (by kernel_rfl))⟩
  t0 := Tryz.underlying0
  a0 := Tryz.isAgg0
  z0 := Tryz.sizeOf0
  v0 := Tryz.zeroValue0
  t3 := Tryz.underlying3
  a3 := Tryz.isAgg3
  z3 := Tryz.sizeOf3
  v3 := Tryz.zeroValue3
  t4 := Tryz.underlying4
  a4 := Tryz.isAgg4
  z4 := Tryz.sizeOf4
  v4 := Tryz.zeroValue4
  t22 := Tryz.underlying145
  a22 := Tryz.isAgg145
  z22 := Tryz.sizeOf145
  v22 := Tryz.zeroValue145 }
end Go.Proofs.YtdbgfidnccpmdaaGreat

/-
  Rows of spots: turned round, copied, cut.
-/
namespace Go.Proofs.YtdbgfidnccpmdaaGreat
open Go.RowKit Go.Maps Go.Sort Go.Shelf
set_option linter.unusedVariables false

def encS (bits : Int) (p : Int × Int) : List Value := [.int .i64 bits, .int .i64 p.1, .int .i64 p.2]
theorem flatS_eq (bits : Int) (l : List (Int × Int)) : flatS bits l = l.flatMap (encS bits) := rfl
theorem flatS_snoc (bits : Int) (l : List (Int × Int)) (p : Int × Int) : flatS bits (l ++ [p]) = flatS bits l ++ [.int .i64 bits, .int .i64 p.1, .int .i64 p.2] := by simp [flatS]
theorem flatS_at (bits : Int) (l : List (Int × Int)) (k : Nat) (hk : k < l.length) (j : Nat) (hj : j < 3) : (flatS bits l)[k * 3 + j]? = (encS bits l[k])[j]? := by
  induction l generalizing k with
  | nil => simp at hk
  | cons x r ih =>
    have e : flatS bits (x :: r) = encS bits x ++ flatS bits r := rfl
    rw [e]
    match k with
    | 0 =>
      rw [List.getElem?_append_left (by simp [encS]; omega)]
      simp
    | k + 1 =>
      rw [List.getElem?_append_right (by simp [encS]; omega)]
      have := ih k (by simp at hk; omega)
      simp only [List.getElem_cons_succ]
      rw [← this]
      congr 1
      simp [encS]; omega
/-- A row of spots that the call made, without room behind it. -/
def SpN (w : World) (base : Nat) (v : Value) (bits : Int) (l : List (Int × Int)) : Prop :=
  (v = .slice none 0 0 ∧ l = []) ∨ ∃ g cur, v = .slice (some ⟨g, 0, none⟩) l.length l.length ∧ base ≤ g ∧ w.heap[g]? = some (.cells cur 43 (0, 0)) ∧ l.length ≤ maxLen ∧ cur.toList.take (l.length * 3) = flatS bits l
section
variable {w w' : World} {base : Nat} {v : Value} {bits : Int} {l : List (Int × Int)}
theorem SpN.fr {K : TypeId → Bool} {mp : Bool} (h : SpN w base v bits l) (hf : Fr K mp w w') (hK : K 43 = false) : SpN w' base v bits l := by
  rcases h with h | ⟨g, cur, h1, h2, h3, h4⟩
  · exact .inl h
  · exact .inr ⟨g, cur, h1, h2, hf.cells _ _ _ _ h3 hK, h4⟩
theorem SpN.below (h : SpN w base v bits l) (hb : Below w.heap.size w w') : SpN w' base v bits l := h.fr (below_fr hb (fun _ => false) false) rfl
theorem SpN.mono {b : Nat} (h : SpN w b v bits l) (hb : base ≤ b) : SpN w base v bits l := by
  rcases h with h | ⟨g, cur, h1, h2, h3⟩
  · exact .inl h
  · exact .inr ⟨g, cur, h1, Nat.le_trans hb h2, h3⟩
theorem SpN.sl (h : SpN w base v bits l) : ∃ a, v = .slice a l.length l.length ∧ l.length ≤ maxLen := by
  rcases h with ⟨rfl, rfl⟩ | ⟨g, cur, rfl, -, -, h4, -⟩
  · exact ⟨none, rfl, Nat.zero_le _⟩
  · exact ⟨_, rfl, h4⟩
theorem SpN.at (h : SpN w base v bits l) (k : Nat) (hk : k < l.length) : ∃ g, v = .slice (some ⟨g, 0, none⟩) l.length l.length ∧ base ≤ g ∧ g < w.heap.size ∧ w.cell? ⟨g, k * 3, none⟩ = some (.int .i64 bits) ∧ w.cell? ⟨g, k * 3 + 1, none⟩ = some (.int .i64 (l[k]).1) ∧ w.cell? ⟨g, k * 3 + 2, none⟩ = some (.int .i64 (l[k]).2) ∧ ∀ o, w.frozen? ⟨g, o, none⟩ = false := by
  rcases h with ⟨-, rfl⟩ | ⟨g, cur, hv, hb, hg, hm, ht⟩
  · simp at hk
  · have hj : ∀ j, j < 3 → w.cell? ⟨g, k * 3 + j, none⟩ = (encS bits l[k])[j]? := fun j hj => by
      rw [← flatS_at bits l k hk j hj, ← ht, List.getElem?_take, if_pos (by omega), hcell hg]
      simp
    exact ⟨g, hv, hb, (Array.getElem?_eq_some_iff.1 hg).1, hj 0 (by omega), hj 1 (by omega), hj 2 (by omega), fun o => hfrz hg o⟩
end
theorem info_spot3 : (Tryz.prog.info? 43).map (fun i => (i.zero, i.size, i.bytes)) = some (some (.agg #[.int .i64 0, .int .i64 0, .int .i64 0]), 3, 24) := by kernel_rfl
theorem sclip_any {w : World} {base : Nat} {v : Value} {bits : Int} {l : List (Int × Int)} (h : w.ownsRow base 43 3 v l.length (flatS bits l)) : Calls Tryz.prog 141 #[v] w fun e w' => ∃ v', e = .returned v' ∧ SpN w base v' bits l ∧ w' = w := by
  obtain ⟨h1, ⟨rfl, h0⟩ | ⟨g, cap, cur, rfl, hb, hg, hn, hm, hs, ht⟩⟩ := h
  · have : l = [] := List.length_eq_zero_iff.1 h0
    subst this
    clear h1 h0
    go_enter Tryz.func141, Tryz.ntmps141
    go_wp2
    go_ret
    exact ⟨_, rfl, .inl ⟨rfl, rfl⟩, rfl⟩
  · have hm2 := Nat.le_trans hn hm
    have H : Hid (SpN w base (.slice (some ⟨g, 0, none⟩) l.length l.length) bits l) := .inr ⟨g, cur, rfl, hb, hg, hm2, ht⟩
    unfold maxLen at hm hm2
    clear h1 hb hg hs ht
    go_enter Tryz.func141, Tryz.ntmps141
    go_wp2
    go_ret
    exact ⟨_, rfl, H.out, rfl⟩
theorem flatS_one (bits : Int) (l : List (Int × Int)) : ∀ u ∈ flatS bits l, u.oneCell' = true := by
  intro u hu
  obtain ⟨p, _, hp⟩ := List.mem_flatMap.1 hu
  simp at hp
  rcases hp with rfl | rfl | rfl <;> rfl
set_option maxRecDepth 10000 in
theorem sclone_any {w : World} {base : Nat} {v : Value} {bits : Int} {l : List (Int × Int)} (h : w.ownsRow base 43 3 v l.length (flatS bits l)) (hl : l.length ≤ 100000) : Calls Tryz.prog 142 #[v] w fun e w' => ∃ v', e = .returned v' ∧ w'.ownsRow w.heap.size 43 3 v' l.length (flatS bits l) ∧ Below w.heap.size w w' := by
  obtain ⟨i0, hi0, hz0, hz1, hz2⟩ := info_parts info_spot3
  have HI := Lib.hid hi0; have HZ0 := Lib.hid hz0; have HZ1 := Lib.hid hz1; have HZ2 := Lib.hid hz2
  clear hi0 hz0 hz1 hz2
  obtain ⟨h1, ⟨rfl, h0⟩ | ⟨g, cap, cur, rfl, hb, hg, hn, hm, hs, ht⟩⟩ := h
  · have : l = [] := List.length_eq_zero_iff.1 h0
    subst this
    clear h1 h0 hl
    have q22 : ∀ (w : World) (a : Option Addr) (n c n' c' : Nat), (binOp .eql 145 (.slice a n c) (.slice none n' c')).run Tryz.prog w = .ok (.bool a.isNone) w := fun w a n c n' c' => Go.Lib.run_eql_slice_nil w _ _ a n c n' c' Tryz.underlying145
    go_enter Tryz.func142, Tryz.ntmps142
    go_wp2
    go_ret
    exact ⟨_, rfl, World.ownsRow_nil _ _ _ _, Below.refl _ _⟩
  · have hcs : ∀ j u, (flatS bits l)[j]? = some u → w.cell? ⟨g, j, none⟩ = some u := fun j u hj => by
      have hj2 : j < (flatS bits l).length := (List.getElem?_eq_some_iff.1 hj).1
      rw [flatS_len] at hj2
      rw [← ht, List.getElem?_take, if_pos hj2] at hj
      rw [hcell hg, ← hj]; simp
    have hglt := (Array.getElem?_eq_some_iff.1 hg).1
    have HC := Lib.hid hcs; have HL := Lib.hid hl; have HG := Lib.hid hglt
    clear h1 hb hg hn hs ht hcs hl hm hglt
    have q22 : ∀ (w : World) (a : Option Addr) (n c n' c' : Nat), (binOp .eql 145 (.slice a n c) (.slice none n' c')).run Tryz.prog w = .ok (.bool a.isNone) w := fun w a n c n' c' => Go.Lib.run_eql_slice_nil w _ _ a n c n' c' Tryz.underlying145
    go_enter Tryz.func142, Tryz.ntmps142
    go_wp2_with (at_builtin; refine wpList_append_own _ rfl _ _ 145 rfl w.heap.size 43 i0 (.agg #[.int .i64 0, .int .i64 0, .int .i64 0]) 3 24 Tryz.underlying145 HI.out HZ0.out HZ1.out HZ2.out rfl (by decide) _ _ _ rfl (World.ownsRow_made w #[] 0 (Nat.le_refl _) (Nat.zero_le _) (by simp)) ⟨g, 0, none⟩ l.length cap (flatS bits l) rfl ?c1 ?c2 ?c3 ?c4 ?c5 ?c6 ?_)
    case c1 => exact flatS_len _ _
    case c2 =>
      intro j u hj
      have ea : (⟨g, 0, none⟩ : Addr).add j = ⟨g, 0 + j, none⟩ := by simp [Addr.add]; omega
      rw [ea]
      rw [World.cell?_alloc_past _ _ _ (show g < _ from HG.out), Nat.zero_add]
      exact HC.out j u hj
    case c3 => exact flatS_one bits l
    case c4 => have := HL.out; unfold maxLen; omega
    case c5 => have := HL.out; omega
    case c6 => simp
    intro v' w2 hown hgr _
    have hb1 := below_alloc w (.cells #[] 43)
    have hB : Below w.heap.size w w2 := ((Below.refl w.heap.size w).trans hb1).grown hgr (by simp) (fun k hk => by simp [Value.ownBlock] at hk; omega)
    have HO := Lib.hid hown; have HB := Lib.hid hB
    clear hown hgr hb1 hB
    go_wp2
    go_ret
    have := HO.out
    first
      | exact ⟨_, rfl, this, HB.out⟩
      | (simp only [Nat.zero_add, List.nil_append] at this; exact ⟨_, rfl, this, HB.out⟩)
theorem holds_flatS {w : World} {g e : Nat} {cur : Array Value} (hg : w.heap[g]? = some (.cells cur e (0, 0))) (bits : Int) (l : List (Int × Int)) (ht : cur.toList.take (l.length * 3) = flatS bits l) : HoldsK (encS bits) 3 w g 0 l.toArray := by
  intro j hj
  rw [size_flatK] at hj
  have hj2 : j < l.length * 3 := by simpa using hj
  have hi : j / 3 < l.length := by omega
  have hc : cur[j]? = (flatS bits l)[j]? := by rw [← ht, List.getElem?_take_of_lt hj2]; simp
  have hw : w.cell? ⟨g, 0 + j, none⟩ = cur[j]? := by simp [World.cell?, hg]
  refine ⟨?_, by simp [World.frozen?, hg]⟩
  rw [get_flatK _ _ _ _ hj, hw, hc]
  have hf := flatS_at bits l (j / 3) hi (j % 3) (by omega)
  rw [show j / 3 * 3 + j % 3 = j by omega] at hf
  rw [hf]
  have hlt : j % 3 < (encS bits l[j / 3]).length := by show j % 3 < 3; omega
  rw [List.getElem?_eq_getElem hlt]
  rw [show l.toArray[j / 3]! = l[j / 3] by simp [hi], id, getElem!_pos (encS bits l[j / 3]) _ hlt]
theorem flatK_list (bits : Int) (l : List (Int × Int)) : (flatK (encS bits) 3 l.toArray).toList = flatS bits l := by
  refine List.ext_getElem? fun j => ?_
  by_cases hj : j < l.length * 3
  · have hi : j / 3 < l.length := by omega
    have hf := flatS_at bits l (j / 3) hi (j % 3) (by omega)
    rw [show j / 3 * 3 + j % 3 = j by omega] at hf
    have hlt : j % 3 < (encS bits l[j / 3]).length := by show j % 3 < 3; omega
    have hj2 : j < l.toArray.size * 3 := by simpa using hj
    have hg := get_flatK (encS bits) 3 l.toArray j hj2
    rw [show l.toArray[j / 3]! = l[j / 3] by simp [hi], getElem!_pos (encS bits l[j / 3]) _ hlt, getElem!_pos _ j (by rw [size_flatK]; exact hj2)] at hg
    rw [hf, List.getElem?_eq_getElem hlt, Array.getElem?_toList, Array.getElem?_eq_getElem (by rw [size_flatK]; exact hj2), hg]
  · rw [List.getElem?_eq_none (by rw [Array.length_toList, size_flatK]; simp; omega), List.getElem?_eq_none (by rw [flatS_len]; omega)]
theorem srev_any {w : World} {base : Nat} {v : Value} {bits : Int} {l : List (Int × Int)} (h : w.ownsRow base 43 3 v l.length (flatS bits l)) (hl : l.length ≤ 100000) : Calls Tryz.prog 263 #[v] w fun e w' => e = .returned (.tuple #[]) ∧ w'.ownsRow base 43 3 v l.reverse.length (flatS bits l.reverse) ∧ Keeps (fun k => v.ownBlock = some k) w w' := by
  obtain ⟨h1, ⟨rfl, h0⟩ | ⟨g, cap, cur, rfl, hb, hg, hn, hm, hs, ht⟩⟩ := h
  · have : l = [] := List.length_eq_zero_iff.1 h0
    subst this
    exact (@AnyQ.slices_Reverse_empty _ _ revS none 0 w).mono fun e w' ⟨a, b⟩ => ⟨a, by rw [b]; exact World.ownsRow_nil _ _ _ _, by rw [b]; exact below_keeps (Below.refl _ _) _⟩
  · have hH := holds_flatS hg bits l ht
    have := AnyQ.slices_Reverse revS 3 Tryz.isAgg43 Tryz.sizeOf43 (encS bits) (fun _ => rfl) (fun x v hv => by simp [encS] at hv; rcases hv with rfl | rfl | rfl <;> rfl) g 0 cap l.toArray w hH (by simp; omega)
    refine Calls.mono (show Calls Tryz.prog 263 #[.slice (some ⟨g, 0, none⟩) l.length cap] w _ from this) fun e w' hh => ?_
    obtain ⟨he, n, rfl⟩ := hh
    have hk : Keeps (fun k => (Value.slice (some ⟨g, 0, none⟩) l.length cap).ownBlock = some k) w (putRowK (encS bits) 3 (Sort.ahead w n) g 0 l.toArray.reverse) := by
      refine ⟨rfl, rfl, rfl, by simp [putRowK, putRow, mapBlock, Sort.ahead], fun k hk hne => ?_⟩
      have hne : ¬ g = k := fun c => hne (by subst c; rfl)
      simp [putRowK, putRow, mapBlock, Sort.ahead, Array.getElem?_modify, hne]
    have hh : (putRowK (encS bits) 3 (Sort.ahead w n) g 0 l.toArray.reverse).heap[g]? = some (.cells (putCells id 0 (flatK (encS bits) 3 l.toArray.reverse) cur) 43 (0, 0)) := by
      simp [putRowK, putRow, mapBlock, Sort.ahead, Array.getElem?_modify, hg, onCells]
    refine ⟨he, ⟨flatS_len _ _, .inr ⟨g, cap, _, by rw [List.length_reverse], hb, hh, by rw [List.length_reverse]; exact hn, hm, by rw [← hs]; simp [putCells], ?_⟩⟩, hk⟩
    have e2 : l.toArray.reverse = l.reverse.toArray := by simp
    rw [e2, ← flatK_list bits l.reverse]
    refine List.ext_getElem? fun j => ?_
    have hsz : (flatK (encS bits) 3 l.reverse.toArray).size = l.length * 3 := by rw [size_flatK]; simp
    have hcap : l.length * 3 ≤ cur.size := by rw [hs]; exact Nat.mul_le_mul_right 3 hn
    by_cases hj : j < l.length * 3
    · rw [List.getElem?_take, if_pos (by rw [List.length_reverse]; exact hj), Array.getElem?_toList, Array.getElem?_toList]
      simp only [putCells, Array.getElem?_mapIdx]
      rw [Array.getElem?_eq_getElem (show j < cur.size by omega)]
      simp only [Option.map_some]
      rw [if_pos (by rw [hsz]; omega), Array.getElem?_eq_getElem (by rw [hsz]; exact hj)]
      simp only [id, Nat.sub_zero]
      rw [getElem!_pos _ j (by rw [hsz]; exact hj)]
    · rw [List.getElem?_eq_none (by rw [List.length_take, List.length_reverse]; omega), List.getElem?_eq_none (by rw [Array.length_toList, hsz]; omega)]
/-- The way, told. -/
theorem wgot {w : World} {lo xb : Nat} {x : WY} (h : WayAt w lo xb x) (hl : x.way.length ≤ 100000) : Calls Tryz.prog 61 #[.pointer (some ⟨xb, 0, none⟩)] w fun e w' => ∃ v, e = .returned v ∧ SpN w' w.heap.size v x.bits x.way ∧ Below w.heap.size w w' := by
  obtain ⟨_, ⟨vb, vw, h1, -, h3, -⟩, -⟩ := h
  have hc := sclone_any h3 hl
  obtain ⟨-, -, -, -, -, c5, -, -⟩ := wy_cells h1
  clear h1 h3 hl
  go_enter Tryz.func61, Tryz.ntmps61
  go_wp2_with (first
    | (go_at_call 142; refine hc.mono ?_; intro e w2 hh; obtain ⟨v2, hh1, o2, b2⟩ := hh; subst hh1; have hcl := sclip_any o2; have B2 := Lib.hid b2; clear o2 b2 hc c5)
    | (go_at_call 141; refine hcl.mono ?_; intro e w3 hh; obtain ⟨v3, hh1, o3, hw⟩ := hh; subst hh1; obtain rfl := hw.symm; have O3 := Lib.hid o3; clear o3 hcl))
  go_ret
  exact ⟨_, rfl, O3.out, B2.out⟩
end Go.Proofs.YtdbgfidnccpmdaaGreat

/-
  Ways: a way that is found is as short as may be; it leads from bucket to bucket.
-/
namespace Go.Proofs.YtdbgfidnccpmdaaGreat
set_option linter.unusedVariables false

theorem wseg_new (cap : Int) (o : Int → Nat → Int) : ∀ d p l, p + d ≤ l.length → ∀ i, l.length ≤ i → i < (wseg cap o d p l).length → ∃ f : Nat, p ≤ f ∧ f < p + d ∧ (nd (wseg cap o d p l) i).2.1 = f := by
  intro d
  induction d with
  | zero => intro p l _ i h1 h2; exact absurd h2 (by show ¬ i < l.length; omega)
  | succ d ih =>
    intro p l hl i h1 h2
    have hp := wexp_pre cap o (nd l p).1 p l
    have hle := hp.length_le
    have e : wseg cap o (d + 1) p l = wseg cap o d (p + 1) (wexp cap o (nd l p).1 p l) := rfl
    rw [e] at h2 ⊢
    by_cases hi : i < (wexp cap o (nd l p).1 p l).length
    · rw [nd_pre (wseg_pre cap o d (p + 1) _) hi]
      obtain ⟨s, _, hs⟩ := wexp_new cap o (nd l p).1 p l i h1 hi
      rw [hs]; exact ⟨p, Nat.le_refl _, by omega, rfl⟩
    · obtain ⟨f, f1, f2, f3⟩ := ih (p + 1) _ (by omega) i (by omega) h2
      exact ⟨f, by omega, by omega, f3⟩
theorem WSh.seg {N : Nat} {o : Int → Nat → Int} {fr : Int → Int} {a b : Int} (ht : Tab N o) {cap : Int} (hc : (N : Int) ≤ cap) : ∀ d p l, WSh N o fr a b p l → p + d ≤ l.length → (∀ i, p ≤ i → i < p + d → ¬ 0 ≤ fr (nd l i).1) → WSh N o fr a b (p + d) (wseg cap o d p l) := by
  intro d
  induction d with
  | zero => intro p l h _ _; exact h
  | succ d ih =>
    intro p l h hl hf
    have hp := wexp_pre cap o (nd l p).1 p l
    have hle := hp.length_le
    have h1 := h.exp ht hc (by omega) (hf p (Nat.le_refl _) (by omega))
    have := ih (p + 1) _ h1 (by omega) (fun i a b => by rw [nd_pre hp (by omega)]; exact hf i (by omega) (by omega))
    rw [show p + (d + 1) = p + 1 + d by omega]; exact this
/-! ## Layers, as sets. -/
def sput (o : Int → Nat → Int) (k : Nat) (l : List Bool) : List Bool := [0, 1, 2, 3].foldl (fun l s => l.set (o (k : Int) s).toNat true) l
def fstp (o : Int → Nat → Int) (ins : List Bool) (nx : List Bool) (k : Nat) : List Bool := if ins.getD k false = true then sput o k nx else nx
def fnext (N : Nat) (o : Int → Nat → Int) (ins : List Bool) : List Bool := (List.range N).foldl (fstp o ins) ins
def ffree (N : Nat) (fr : Int → Int) (ins : List Bool) : Bool := (List.range N).any fun k => ins.getD k false && decide (0 ≤ fr (k : Int))
def wfar (N : Nat) (o : Int → Nat → Int) (fr : Int → Int) : Nat → Nat → List Bool → Int
  | 0, n, ins => -2
  | m + 1, n, ins => if ffree N fr ins = true then (n : Int) else if fnext N o ins = ins then -1 else wfar N o fr m (n + 1) (fnext N o ins)
theorem set_len (l : List Bool) (i : Nat) : (l.set i true).length = l.length := List.length_set
theorem sput_len (o : Int → Nat → Int) (k : Nat) (l : List Bool) : (sput o k l).length = l.length := by simp [sput]
theorem set_getD (l : List Bool) (i x : Nat) (hx : x < l.length) : (l.set i true).getD x false = (l.getD x false || decide (i = x)) := by
  rw [List.getD_eq_getElem?_getD, List.getElem?_set, List.getD_eq_getElem?_getD]
  by_cases h : i = x
  · subst h; simp [hx]
  · simp [h]
theorem sput_getD (o : Int → Nat → Int) (k : Nat) (l : List Bool) (x : Nat) (hx : x < l.length) : (sput o k l).getD x false = true ↔ l.getD x false = true ∨ ∃ s, s < 4 ∧ (o (k : Int) s).toNat = x := by
  show ((((l.set _ true).set _ true).set _ true).set _ true).getD x false = true ↔ _
  rw [set_getD _ _ _ (by simpa using hx), set_getD _ _ _ (by simpa using hx), set_getD _ _ _ (by simpa using hx), set_getD _ _ _ hx]
  simp only [Bool.or_eq_true, decide_eq_true_eq]
  constructor
  · rintro ((((h | h) | h) | h) | h)
    · exact .inl h
    · exact .inr ⟨0, by omega, h⟩
    · exact .inr ⟨1, by omega, h⟩
    · exact .inr ⟨2, by omega, h⟩
    · exact .inr ⟨3, by omega, h⟩
  · rintro (h | ⟨s, hs, h⟩)
    · exact .inl (.inl (.inl (.inl h)))
    · rcases (show s = 0 ∨ s = 1 ∨ s = 2 ∨ s = 3 by omega) with rfl | rfl | rfl | rfl
      · exact .inl (.inl (.inl (.inr h)))
      · exact .inl (.inl (.inr h))
      · exact .inl (.inr h)
      · exact .inr h
theorem fstp_len (o : Int → Nat → Int) (ins nx : List Bool) (k : Nat) : (fstp o ins nx k).length = nx.length := by
  unfold fstp; split
  · exact sput_len _ _ _
  · rfl
theorem ffold_len (o : Int → Nat → Int) (ins : List Bool) (ks : List Nat) : ∀ nx, (ks.foldl (fstp o ins) nx).length = nx.length := by
  induction ks with
  | nil => intro nx; rfl
  | cons k r ih => intro nx; rw [List.foldl_cons, ih, fstp_len]
theorem ffold_getD (o : Int → Nat → Int) (ins : List Bool) (ks : List Nat) (x : Nat) : ∀ nx : List Bool, x < nx.length → ((ks.foldl (fstp o ins) nx).getD x false = true ↔ nx.getD x false = true ∨ ∃ k ∈ ks, ins.getD k false = true ∧ ∃ s, s < 4 ∧ (o (k : Int) s).toNat = x) := by
  induction ks with
  | nil => intro nx hx; simp
  | cons k r ih =>
    intro nx hx
    rw [List.foldl_cons, ih _ (by rw [fstp_len]; exact hx)]
    have e : (fstp o ins nx k).getD x false = true ↔ nx.getD x false = true ∨ (ins.getD k false = true ∧ ∃ s, s < 4 ∧ (o (k : Int) s).toNat = x) := by
      unfold fstp
      split
      · rename_i hk
        rw [sput_getD _ _ _ _ hx]
        constructor
        · rintro (h | h); exact .inl h; exact .inr ⟨hk, h⟩
        · rintro (h | ⟨_, h⟩); exact .inl h; exact .inr h
      · rename_i hk
        constructor
        · intro h; exact .inl h
        · rintro (h | ⟨h, _⟩); exact h; exact absurd h hk
    rw [e]
    constructor
    · rintro ((h | h) | ⟨k', h1, h2⟩)
      · exact .inl h
      · exact .inr ⟨k, by simp, h⟩
      · exact .inr ⟨k', by simp [h1], h2⟩
    · rintro (h | ⟨k', h1, h2⟩)
      · exact .inl (.inl h)
      · rcases List.mem_cons.1 h1 with rfl | h1
        · exact .inl (.inr h2)
        · exact .inr ⟨k', h1, h2⟩
/-- A set of buckets, as it is told by a list of nodes. -/
def Ins (ins : List Bool) (l : List Nd) : Prop := ins.length = 32 ∧ ∀ x : Nat, x < 32 → (ins.getD x false = true ↔ (x : Int) ∈ bks l)
theorem fnext_ins {N : Nat} {o : Int → Nat → Int} {fr : Int → Int} {a b : Int} (ht : Tab N o) (hN : N ≤ 32) {cap : Int} (hc : (N : Int) ≤ cap) {p : Nat} {l : List Nd} {ins : List Bool} (h : WSh N o fr a b p l) (hi : Ins ins l) (hf : ∀ i, p ≤ i → i < l.length → ¬ 0 ≤ fr (nd l i).1) :
    Ins (fnext N o ins) (wseg cap o (l.length - p) p l) := by
  have hle := h.le
  have hp := wseg_pre cap o (l.length - p) p l
  have h2 := WSh.seg ht hc (l.length - p) p l h (by omega) (fun i h1 h2 => hf i h1 (by omega))
  rw [show p + (l.length - p) = l.length by omega] at h2
  have hnew := wseg_new cap o (l.length - p) p l (by omega)
  refine ⟨(ffold_len o ins _ ins).trans hi.1, fun x hx => ?_⟩
  show ((List.range N).foldl (fstp o ins) ins).getD x false = true ↔ _
  rw [ffold_getD o ins _ x ins (by rw [hi.1]; exact hx), hi.2 x hx]
  constructor
  · rintro (h1 | ⟨k, hk, hin, s, hs, ho⟩)
    · exact (bks_pre hp).subset h1
    · have hkN : k < N := by simpa using hk
      obtain ⟨i, hil, hib⟩ := nd_of_mem ((hi.2 k (by omega)).1 hin)
      have hsh := h2.shut i hil s hs
      rw [nd_pre hp hil, hib] at hsh
      have := ht.o_in (k : Int) s (by omega) (by omega) hs
      have e : (x : Int) = o (k : Int) s := by omega
      rw [e]; exact hsh
  · intro hm
    obtain ⟨i, hil, hib⟩ := nd_of_mem hm
    by_cases hi2 : i < l.length
    · rw [nd_pre hp hi2] at hib
      exact .inl (by rw [← hib]; exact nd_mem hi2)
    · obtain ⟨f, f1, f2, f3⟩ := hnew i (by omega) hil
      obtain ⟨s, s1, s2, s3, s4⟩ := h2.edge i hil (by rw [f3]; omega)
      rw [f3, Int.toNat_natCast, nd_pre hp (by omega)] at s3
      have hb := h.win.rng _ (nd_mem (l := l) (i := f) (by omega))
      have e : (((nd l f).1.toNat : Nat) : Int) = (nd l f).1 := by omega
      refine .inr ⟨(nd l f).1.toNat, by simp only [List.mem_range]; omega, (hi.2 _ (by omega)).2 (by rw [e]; exact nd_mem (by omega)), s, s1, ?_⟩
      rw [e, s3, hib]; simp
theorem ffree_iff {N : Nat} {fr : Int → Int} {ins : List Bool} {l : List Nd} (hN : N ≤ 32) (hw : WIn N l) (hi : Ins ins l) : ffree N fr ins = true ↔ ∃ i, i < l.length ∧ 0 ≤ fr (nd l i).1 := by
  unfold ffree
  rw [List.any_eq_true]
  constructor
  · rintro ⟨k, hk, h⟩
    simp only [Bool.and_eq_true, decide_eq_true_eq, List.mem_range] at h hk
    obtain ⟨i, h1, h2⟩ := nd_of_mem ((hi.2 k (by omega)).1 h.1)
    exact ⟨i, h1, by rw [h2]; exact h.2⟩
  · rintro ⟨i, h1, h2⟩
    have hb := hw.rng _ (nd_mem h1)
    have e : (((nd l i).1.toNat : Nat) : Int) = (nd l i).1 := by omega
    refine ⟨(nd l i).1.toNat, by simp only [List.mem_range]; omega, ?_⟩
    simp only [Bool.and_eq_true, decide_eq_true_eq]
    exact ⟨(hi.2 _ (by omega)).2 (by rw [e]; exact nd_mem h1), by rw [e]; exact h2⟩
theorem least {P : Nat → Prop} [DecidablePred P] (q : Nat) (h : ∃ i, i < q ∧ P i) : ∃ j, j < q ∧ P j ∧ ∀ i, i < j → ¬ P i := by
  induction q with
  | zero => obtain ⟨i, hi, _⟩ := h; omega
  | succ q ih =>
    by_cases h2 : ∃ i, i < q ∧ P i
    · obtain ⟨j, h3, h4, h5⟩ := ih h2; exact ⟨j, by omega, h4, h5⟩
    · obtain ⟨i, hi, hp⟩ := h
      have : i = q := by
        apply Classical.byContradiction
        intro c; exact h2 ⟨i, by omega, hp⟩
      subst this
      exact ⟨i, by omega, hp, fun k hk c => h2 ⟨k, hk, c⟩⟩
/-- What is found in the end: the way's node, the list; or nothing. -/
def Ends (N : Nat) (o : Int → Nat → Int) (fr : Int → Int) (a b : Int) (r : Nat × List Nd × List (Int × Int) × Bool) : Prop :=
  (r.2.2.1 = [] ∧ ∃ l, WSh N o fr a b l.length l) ∨ ∃ j l, WSh N o fr a b j l ∧ j < l.length ∧ 0 ≤ fr (nd l j).1 ∧ r.2.2.1 = wway l j (fr (nd l j).1)
theorem wfar_law {N : Nat} {o : Int → Nat → Int} {fr : Int → Int} {a b : Int} (ht : Tab N o) (hN : N ≤ 32) {cap : Int} (hc : (N : Int) ≤ cap) : ∀ m d p l ins n, WSh N o fr a b p l → Ins ins l → (∀ i, p ≤ i → i < l.length → ∀ s, (wpath l (i + 1) i s).length = d + 1) → d + 1 ≤ l.length → m + d = 32 → N ≤ n + p →
    ((wrun cap o fr n p l).2.2.1.length : Int) = wfar N o fr m d ins + 1 ∧ Ends N o fr a b (wrun cap o fr n p l) := by
  intro m
  induction m with
  | zero => intro d p l ins n h hi hd hq hm hn; have := h.win.len; omega
  | succ m ih =>
    intro d p l ins n h hi hd hq hm hn
    have hle := h.le
    have hNl := h.win.len
    have ef : wfar N o fr (m + 1) d ins = if ffree N fr ins = true then (d : Int) else if fnext N o ins = ins then -1 else wfar N o fr m (d + 1) (fnext N o ins) := rfl
    rw [ef]
    by_cases hfr : ffree N fr ins = true
    · rw [if_pos hfr]
      obtain ⟨j, hj1, hj2, hj3⟩ := least l.length ((ffree_iff hN h.win hi).1 hfr)
      have hjp : p ≤ j := by
        apply Classical.byContradiction
        intro c; exact h.full j (by omega) hj2
      obtain ⟨q, rfl⟩ : ∃ q, n = (q + 1) + (j - p) := ⟨n - (j - p) - 1, by omega⟩
      have hsf : ∀ i, p ≤ i → i < p + (j - p) → ¬ 0 ≤ fr (nd l i).1 := fun i _ h2 => hj3 i (by omega)
      rw [wrun_seg cap o fr (j - p) (q + 1) p l (by omega) hsf]
      have hp := wseg_pre cap o (j - p) p l
      have h2 := WSh.seg ht hc (j - p) p l h (by omega) hsf
      rw [show p + (j - p) = j by omega] at h2 ⊢
      generalize wseg cap o (j - p) p l = l' at *
      have hll := hp.length_le
      have e : wrun cap o fr (q + 1) j l' = if l'.length ≤ j then (0, l', [], true) else if 0 ≤ fr (nd l' j).1 then (1, l', wway l' j (fr (nd l' j).1), true) else
        ((wrun cap o fr q (j + 1) (wexp cap o (nd l' j).1 j l')).1 + 1, (wrun cap o fr q (j + 1) (wexp cap o (nd l' j).1 j l')).2) := rfl
      have hnd := nd_pre hp hj1
      rw [if_neg (by omega), hnd, if_pos hj2] at e
      rw [e]
      refine ⟨?_, .inr ⟨j, l', h2, by omega, by rw [hnd]; exact hj2, by rw [hnd]⟩⟩
      show ((wway l' j (fr (nd l j).1)).length : Int) = _
      rw [wway_pre hp h.ahead j hj1]
      unfold wway
      rw [List.length_reverse, wpath_fuel (List.prefix_refl l) h.ahead j hj1 l.length (j + 1) _ hj1 (by omega), hd j hjp hj1]
      omega
    · rw [if_neg hfr]
      have hno : ∀ i, p ≤ i → i < l.length → ¬ 0 ≤ fr (nd l i).1 := fun i _ h2 c => hfr ((ffree_iff hN h.win hi).2 ⟨i, h2, c⟩)
      obtain ⟨q, rfl⟩ : ∃ q, n = q + (l.length - p) := ⟨n - (l.length - p), by omega⟩
      have hsf : ∀ i, p ≤ i → i < p + (l.length - p) → ¬ 0 ≤ fr (nd l i).1 := fun i h1 h2 => hno i h1 (by omega)
      rw [wrun_seg cap o fr (l.length - p) q p l (by omega) hsf]
      have hp := wseg_pre cap o (l.length - p) p l
      have h2 := WSh.seg ht hc (l.length - p) p l h (by omega) hsf
      have hi2 := fnext_ins ht hN hc h hi hno
      have hnew := wseg_new cap o (l.length - p) p l (by omega)
      rw [show p + (l.length - p) = l.length by omega] at h2 hnew ⊢
      generalize wseg cap o (l.length - p) p l = l' at *
      have hll := hp.length_le
      by_cases heq : l'.length = l.length
      · have el : l' = l := (hp.eq_of_length heq.symm).symm
        subst el
        have e2 : fnext N o ins = ins := by
          refine List.ext_getElem (by rw [hi2.1, hi.1]) fun x h1 h3 => ?_
          have hx : x < 32 := by rw [hi2.1] at h1; exact h1
          have a1 := hi2.2 x hx
          have a2 := hi.2 x hx
          rw [List.getD_eq_getElem?_getD, List.getElem?_eq_getElem h1] at a1
          rw [List.getD_eq_getElem?_getD, List.getElem?_eq_getElem h3] at a2
          simp only [Option.getD_some] at a1 a2
          exact Bool.eq_iff_iff.2 (a1.trans a2.symm)
        rw [if_pos e2]
        have e3 : (wrun cap o fr q l'.length l').2.2.1 = [] := by
          cases q with
          | zero => rfl
          | succ q => show (if l'.length ≤ l'.length then (0, l', [], true) else if 0 ≤ fr (nd l' l'.length).1 then _ else _ : Nat × List Nd × List (Int × Int) × Bool).2.2.1 = []; rw [if_pos (Nat.le_refl _)]
        exact ⟨by show ((wrun cap o fr q l'.length l').2.2.1.length : Int) = _; rw [e3]; rfl, .inl ⟨e3, l', h2⟩⟩
      · have hne : fnext N o ins ≠ ins := by
          intro c
          rw [c] at hi2
          have hm1 : (nd l' l.length).1 ∈ bks l' := nd_mem (by omega)
          have hb := h2.win.rng _ hm1
          have ex : (((nd l' l.length).1.toNat : Nat) : Int) = (nd l' l.length).1 := by omega
          have : (nd l' l.length).1 ∈ bks l := by
            have a1 := (hi2.2 (nd l' l.length).1.toNat (by omega)).2 (by rw [ex]; exact hm1)
            have a2 := (hi.2 (nd l' l.length).1.toNat (by omega)).1 a1
            rw [ex] at a2; exact a2
          obtain ⟨i, h4, h5⟩ := nd_of_mem this
          have hnd := h2.win.nodup
          have g1 : (bks l')[i]? = some (nd l' l.length).1 := by
            have : i < (bks l').length := by rw [bks_len]; omega
            rw [List.getElem?_eq_getElem this, Option.some.injEq]
            rw [← h5, ← nd_pre hp h4]
            simp [bks, nd, List.getD_eq_getElem?_getD, show i < l'.length by omega]
          have g2 : (bks l')[l.length]? = some (nd l' l.length).1 := by
            have : l.length < (bks l').length := by rw [bks_len]; omega
            rw [List.getElem?_eq_getElem this, Option.some.injEq]
            simp [bks, nd, List.getD_eq_getElem?_getD, show l.length < l'.length by omega]
          have := (List.getElem?_inj (i := i) (j := l.length) (by rw [bks_len]; omega) hnd).1 (g1.trans g2.symm)
          omega
        rw [if_neg hne]
        have := ih (d + 1) l.length l' (fnext N o ins) q h2 hi2 (fun i h3 h4 s => by
          obtain ⟨f, f1, f2, f3⟩ := hnew i h3 h4
          unfold wpath
          rw [List.length_cons, f3, if_neg (by omega), Int.toNat_natCast, wpath_fuel hp h.ahead f f2 i (f + 1) _ (by omega) (by omega), hd f f1 f2]) (by omega) (by omega) (by omega)
        exact this
/-! ## A way leads. -/
/-- A way: from one of the first buckets on, each slot's tag leads to the next bucket, what is ahead of the last one is full, all are unlike. -/
structure Leads (o : Int → Nat → Int) (fr : Int → Int) (a b : Int) (W : List (Int × Int)) : Prop where
  first : ∀ x, W[0]? = some x → x.1 = a ∨ x.1 = b
  next : ∀ t x y, W[t]? = some x → W[t + 1]? = some y → ¬ 0 ≤ fr x.1 ∧ ∃ s : Nat, s < 4 ∧ x.2 = (s : Int) ∧ o x.1 s = y.1
  last : ∀ x, W[W.length - 1]? = some x → x.2 = fr x.1 ∧ 0 ≤ fr x.1
  unlike : (W.map (·.1)).Nodup
theorem wpath_facts {N : Nat} {o : Int → Nat → Int} {fr : Int → Int} {a b : Int} {p : Nat} {l : List Nd} (h : WSh N o fr a b p l) : ∀ i, i < l.length → ∀ n s, i < n →
    (wpath l n i s)[0]? = some ((nd l i).1, s) ∧ (∀ x, (wpath l n i s).getLast? = some x → x.1 = a ∨ x.1 = b) ∧
    (∀ t x y, (wpath l n i s)[t]? = some y → (wpath l n i s)[t + 1]? = some x → ¬ 0 ≤ fr x.1 ∧ ∃ u : Nat, u < 4 ∧ x.2 = (u : Int) ∧ o x.1 u = y.1) ∧
    (∀ x ∈ wpath l n i s, ∃ k, k ≤ i ∧ (nd l k).1 = x.1) ∧ ((wpath l n i s).map (·.1)).Nodup := by
  intro i
  induction i using Nat.strongRecOn with
  | _ i ih =>
    intro hi n s hn
    obtain ⟨n, rfl⟩ : ∃ q, n = q + 1 := ⟨n - 1, by omega⟩
    by_cases hr : (nd l i).2.1 = -1
    · have e : wpath l (n + 1) i s = [((nd l i).1, s)] := by show _ :: _ = _; rw [if_pos hr]
      rw [e]
      refine ⟨rfl, fun x hx => ?_, fun t x y h1 h2 => ?_, fun x hx => ?_, by simp⟩
      · simp only [List.getLast?_singleton, Option.some.injEq] at hx
        subst hx; exact h.root i hi hr
      · simp at h2
      · simp only [List.mem_singleton] at hx
        subst hx; exact ⟨i, Nat.le_refl _, rfl⟩
    · have hf : 0 ≤ (nd l i).2.1 ∧ (nd l i).2.1 < i := by rcases h.ahead i hi with c | c; exact absurd c hr; exact c
      obtain ⟨u, u1, u2, u3, u4⟩ := h.edge i hi hr
      obtain ⟨f, hff⟩ : ∃ f, f = (nd l i).2.1.toNat := ⟨_, rfl⟩
      have e : wpath l (n + 1) i s = ((nd l i).1, s) :: wpath l n f (nd l i).2.2 := by show _ :: _ = _; rw [if_neg hr, ← hff]
      rw [← hff] at u3 u4
      have hfi : f < i := by omega
      obtain ⟨g1, g2, g3, g4, g5⟩ := ih f hfi (by omega) n (nd l i).2.2 (by omega)
      rw [e]
      generalize wpath l n f (nd l i).2.2 = P at *
      have hP : P ≠ [] := by intro c; rw [c] at g1; cases g1
      refine ⟨rfl, fun x hx => ?_, fun t x y h1 h2 => ?_, fun x hx => ?_, ?_⟩
      · rw [List.getLast?_cons, Option.some.injEq] at hx
        refine g2 x ?_
        rw [List.getLast?_eq_some_getLast hP] at hx ⊢
        simp only [Option.getD_some] at hx
        rw [hx]
      · rw [List.getElem?_cons_succ] at h2
        cases t with
        | zero =>
          rw [List.getElem?_cons_zero, Option.some.injEq] at h1
          rw [g1, Option.some.injEq] at h2
          subst h1; subst h2
          exact ⟨h.full f u4, u, u1, u2, u3⟩
        | succ t =>
          rw [List.getElem?_cons_succ] at h1
          exact g3 t x y h1 h2
      · rcases List.mem_cons.1 hx with rfl | hx
        · exact ⟨i, Nat.le_refl _, rfl⟩
        · obtain ⟨k, k1, k2⟩ := g4 x hx
          exact ⟨k, by omega, k2⟩
      · rw [List.map_cons, List.nodup_cons]
        refine ⟨fun c => ?_, g5⟩
        obtain ⟨x, hx, hx2⟩ := List.mem_map.1 c
        obtain ⟨k, k1, k2⟩ := g4 x hx
        simp only at hx2
        have hnd := h.win.nodup
        have q1 : (bks l)[i]? = some (nd l i).1 := by simp [bks, nd, List.getD_eq_getElem?_getD, hi]
        have q2 : (bks l)[k]? = some (nd l i).1 := by rw [← hx2, ← k2]; simp [bks, nd, List.getD_eq_getElem?_getD, show k < l.length by omega]
        have := (List.getElem?_inj (i := i) (j := k) (by rw [bks_len]; exact hi) hnd).1 (q1.trans q2.symm)
        omega
theorem wway_leads {N : Nat} {o : Int → Nat → Int} {fr : Int → Int} {a b : Int} {p : Nat} {l : List Nd} (h : WSh N o fr a b p l) {j : Nat} (hj : j < l.length) (hf : 0 ≤ fr (nd l j).1) : Leads o fr a b (wway l j (fr (nd l j).1)) := by
  obtain ⟨g1, g2, g3, g4, g5⟩ := wpath_facts h j hj l.length (fr (nd l j).1) hj
  unfold wway
  generalize wpath l l.length j (fr (nd l j).1) = P at *
  have hP : P ≠ [] := by intro c; rw [c] at g1; cases g1
  have hpos := List.length_pos_iff.2 hP
  have at_ : ∀ t, t < P.length → P.reverse[t]? = P[P.length - 1 - t]? := fun t ht => List.getElem?_reverse ht
  constructor
  · intro x hx
    rw [at_ 0 hpos] at hx
    exact g2 x (by rw [List.getLast?_eq_getElem?]; exact hx)
  · intro t x y h1 h2
    have ht : t + 1 < P.length := by
      have := (List.getElem?_eq_some_iff.1 h2).1
      rwa [List.length_reverse] at this
    rw [at_ t (by omega)] at h1
    rw [at_ (t + 1) ht] at h2
    exact g3 (P.length - 1 - (t + 1)) x y h2 (by rw [show P.length - 1 - (t + 1) + 1 = P.length - 1 - t by omega]; exact h1)
  · intro x hx
    rw [List.length_reverse, at_ (P.length - 1) (by omega), show P.length - 1 - (P.length - 1) = 0 by omega, g1, Option.some.injEq] at hx
    subst hx; exact ⟨rfl, hf⟩
  · rw [List.map_reverse]; exact List.pairwise_reverse.2 (g5.imp fun h c => h c.symm)
/-! ## The first nodes. -/
def wfirst (a b : Int) : List Nd := if b = a then [(a, -1, -1)] else [(a, -1, -1), (b, -1, -1)]
theorem wfirst_sh {N : Nat} (o : Int → Nat → Int) (fr : Int → Int) {a b : Int} (ha : 0 ≤ a ∧ a < N) (hb : 0 ≤ b ∧ b < N) : WSh N o fr a b 0 (wfirst a b) := by
  unfold wfirst
  by_cases h : b = a
  · rw [if_pos h]
    subst h
    refine ⟨⟨by simp [bks], fun x hx => ?_⟩, fun i hi => .inl ?_, fun i hi _ => ?_, ⟨by simp [bks], by simp [bks]⟩, fun i hi c => ?_, fun i hi => by omega, fun i hi => by omega, Nat.zero_le _⟩
    · simp [bks] at hx; subst hx; exact hb
    · obtain rfl : i = 0 := by simpa using hi
      rfl
    · obtain rfl : i = 0 := by simpa using hi
      exact .inl rfl
    · obtain rfl : i = 0 := by simpa using hi
      exact absurd rfl c
  · rw [if_neg h]
    have two : ∀ i, i < ([(a, -1, -1), (b, -1, -1)] : List Nd).length → i = 0 ∨ i = 1 := fun i hi => by simp at hi; omega
    refine ⟨⟨by simp [bks]; exact fun c => h c.symm, fun x hx => ?_⟩, fun i hi => .inl ?_, fun i hi _ => ?_, ⟨by simp [bks], by simp [bks]⟩, fun i hi c => ?_, fun i hi => by omega, fun i hi => by omega, Nat.zero_le _⟩
    · simp [bks] at hx; rcases hx with rfl | rfl; exact ha; exact hb
    · rcases two i hi with rfl | rfl <;> rfl
    · rcases two i hi with rfl | rfl
      · exact .inl rfl
      · exact .inr rfl
    · rcases two i hi with rfl | rfl <;> exact absurd rfl c
def fins (a b : Int) : List Bool := ((List.replicate 32 false).set a.toNat true).set b.toNat true
theorem fins_ins {N : Nat} (hN : N ≤ 32) {a b : Int} (ha : 0 ≤ a ∧ a < N) (hb : 0 ≤ b ∧ b < N) : Ins (fins a b) (wfirst a b) := by
  refine ⟨by simp [fins], fun x hx => ?_⟩
  unfold fins
  rw [set_getD _ _ _ (by simpa using hx), set_getD _ _ _ (by simpa using hx)]
  have e0 : (List.replicate 32 false).getD x false = false := by rw [List.getD_eq_getElem?_getD, List.getElem?_replicate]; split <;> rfl
  rw [e0]
  simp only [Bool.false_or, Bool.or_eq_true, decide_eq_true_eq]
  unfold wfirst
  split
  · rename_i h
    simp [bks]; omega
  · simp [bks]; omega
/-- The stage's law: as many nodes as there are buckets. -/
theorem wshort {N : Nat} {o : Int → Nat → Int} {fr : Int → Int} {a b : Int} (ht : Tab N o) (hN : N ≤ 32) {cap : Int} (hc : (N : Int) ≤ cap) (ha : 0 ≤ a ∧ a < N) (hb : 0 ≤ b ∧ b < N) (n : Nat) (hn : N ≤ n) :
    ((wrun cap o fr n 0 (wfirst a b)).2.2.1.length : Int) = wfar N o fr 32 0 (fins a b) + 1 ∧ Ends N o fr a b (wrun cap o fr n 0 (wfirst a b)) := by
  have hsh := wfirst_sh o fr ha hb
  refine wfar_law ht hN hc 32 0 0 _ _ n hsh (fins_ins hN ha hb) (fun i _ hi s => ?_) ?_ rfl (by omega)
  · have hr : (nd (wfirst a b) i).2.1 = -1 := by
      unfold wfirst at hi ⊢
      split
      · rename_i h
        rw [if_pos h] at hi
        obtain rfl : i = 0 := by simpa using hi
        rfl
      · rename_i h
        rw [if_neg h] at hi
        have : i = 0 ∨ i = 1 := by simp at hi; omega
        rcases this with rfl | rfl <;> rfl
    unfold wpath
    rw [if_pos hr]; rfl
  · unfold wfirst; split <;> simp
theorem ends_leads {N : Nat} {o : Int → Nat → Int} {fr : Int → Int} {a b : Int} {r : Nat × List Nd × List (Int × Int) × Bool} (h : Ends N o fr a b r) : Leads o fr a b r.2.2.1 := by
  rcases h with ⟨h, _⟩ | ⟨j, l, h1, h2, h3, h4⟩
  · rw [h]; exact ⟨fun x hx => (by simp at hx), fun t x y hx => (by simp at hx), fun x hx => (by simp at hx), by simp⟩
  · rw [h4]; exact wway_leads h1 h2 h3
/-- With whatever number of nodes a way that is found leads, and is as short. -/
theorem wany {N : Nat} {o : Int → Nat → Int} {fr : Int → Int} {a b : Int} (ht : Tab N o) (hN : N ≤ 32) (cap : Int) (ha : 0 ≤ a ∧ a < N) (hb : 0 ≤ b ∧ b < N) (n : Nat) (hn : N ≤ n) :
    (wrun cap o fr n 0 (wfirst a b)).2.2.1 = [] ∨ (wrun cap o fr n 0 (wfirst a b)).2.2.1 = (wrun N o fr n 0 (wfirst a b)).2.2.1 := by
  have hsh := wfirst_sh o fr ha hb
  by_cases hc : cap ≤ N
  · obtain ⟨_, h2, _⟩ := wmore (cap := cap) (cap' := (N : Int)) o fr hc n 0 (wfirst a b) (wfirst a b) ⟨List.prefix_refl _, .inl rfl⟩ hsh.ahead
    by_cases h : (wrun cap o fr n 0 (wfirst a b)).2.2.1 = []
    · exact .inl h
    · exact .inr (h2 h).symm
  · rw [wrun_caps fr ht (cap := cap) (cap' := (N : Int)) (by omega) (Int.le_refl _) n 0 _ hsh.win]; exact .inr rfl
end Go.Proofs.YtdbgfidnccpmdaaGreat

/-
  A Way: the way from its end on back, turned round.
-/
namespace Go.Proofs.YtdbgfidnccpmdaaGreat
open Go.RowKit Go.Maps
set_option linter.unusedVariables false

def fmsr (v : Value) (w : World) : Nat := match v with
  | .pointer (some a) => match w.cell? a with
    | some (.int .i64 i) => (i + 1).toNat
    | _ => 0
  | _ => 0
/-- What is found so far: the way's spots, and where it goes on. -/
def OnWay (l : List Nd) (P wy : List (Int × Int)) (i s : Int) : Prop := (i = -1 ∧ P = wy) ∨ ∃ ii n : Nat, i = ii ∧ ii < l.length ∧ ii < n ∧ P = wy ++ wpath l n ii s
theorem wpath_len (l : List Nd) : ∀ n i s, (wpath l n i s).length ≤ n := by
  intro n
  induction n with
  | zero => intro i s; exact Nat.le_refl _
  | succ n ih =>
    intro i s
    show (_ :: _).length ≤ _
    rw [List.length_cons]
    split
    · simp
    · have := ih (nd l i).2.1.toNat (nd l i).2.2; omega
theorem intV_at (l : List Nd) (i : Nat) (hi : i < l.length) : (intV (bks l))[i]? = some (.int .i64 (nd l i).1) := by
  unfold intV bks nd
  rw [List.getElem?_map, List.getElem?_map, List.getElem?_eq_getElem hi, List.getD_eq_getElem?_getD, List.getElem?_eq_getElem hi]; rfl
theorem row1_at {w : World} {base e : Nat} {v : Value} {n : Nat} {xs : List Value} (h : w.ownsRow base e 1 v n xs) (i : Nat) (hi : i < n) (u : Value) (hu : xs[i]? = some u) : ∃ g cap, v = .slice (some ⟨g, 0, none⟩) n cap ∧ w.cell? ⟨g, i, none⟩ = some u ∧ ∃ cur, w.heap[g]? = some (.cells cur e (0, 0)) := by
  obtain ⟨h1, ⟨rfl, h0⟩ | ⟨g, cap, cur, rfl, hb, hg, hn, hm, hs, ht⟩⟩ := h
  · omega
  · refine ⟨g, cap, rfl, ?_, cur, hg⟩
    rw [hcell hg]
    rw [← ht, List.getElem?_take, if_pos (by omega)] at hu
    simpa using hu
theorem setk_of {w : World} {q T : Nat} {cs : Array Value} (h : w.heap[q]? = some (.cells cs T (0, 0))) (o : Nat) (v : Value) : Keeps (fun k => k = q) w (w.setCell ⟨q, o, none⟩ v) := setCell_keeps w q o v
/-- Behind a spot more. -/
theorem fnd_step {w W w4 : World} {lo xb fb g2 cap2 n cw : Nat} {aw : Option Addr} {x : WY} {wy : List (Int × Int)} {b s' ii : Int} (hx : WayAt W lo xb { x with way := wy }) (hc : W.cell? ⟨xb, 5, none⟩ = some (.slice aw n cw)) (hn : n = wy.length) (hnw : ∀ k, (Value.slice aw n cw).ownBlock = some k → w.heap.size ≤ k) (hk : Keeps (fun k => k = xb) w W)
    (hfb : W.heap[fb]? = some (.cells #[.int .i64 ii, .int .i64 s'] 269 (0, 0))) (hown : w4.ownsRow lo 43 3 (.slice (some ⟨g2, 0, none⟩) (n + 1) cap2) (n + 1) (flatS x.bits wy ++ [.int .i64 x.bits, .int .i64 b, .int .i64 s']))
    (hgr : ((W.drew).alloc (.cells #[.int .i64 x.bits, .int .i64 b, .int .i64 s'] 43)).grownBy w4 (Value.slice aw n cw).ownBlock) (hat : (Value.slice aw n cw).ownBlock = some g2 ∨ g2 = W.heap.size + 1) :
    WayAt (w4.setCell ⟨xb, 5, none⟩ (.slice (some ⟨g2, 0, none⟩) (n + 1) cap2)) lo xb { x with way := wy ++ [(b, s')] } ∧ Keeps (fun k => k = xb) w (w4.setCell ⟨xb, 5, none⟩ (.slice (some ⟨g2, 0, none⟩) (n + 1) cap2)) ∧ (w4.setCell ⟨xb, 5, none⟩ (.slice (some ⟨g2, 0, none⟩) (n + 1) cap2)).heap[fb]? = some (.cells #[.int .i64 ii, .int .i64 s'] 269 (0, 0)) ∧
      ∃ vw, (w4.setCell ⟨xb, 5, none⟩ (.slice (some ⟨g2, 0, none⟩) (n + 1) cap2)).cell? ⟨xb, 5, none⟩ = some vw ∧ ∀ k, vw.ownBlock = some k → w.heap.size ≤ k := by
  obtain ⟨h0, ⟨vb, vw, h1, h2, h3, h4⟩, h5, h6, h7⟩ := hx
  obtain rfl : vw = .slice aw n cw := by rw [hcell h1] at hc; exact Option.some.inj hc
  have hb1 : Below W.heap.size W ((W.drew).alloc (.cells #[.int .i64 x.bits, .int .i64 b, .int .i64 s'] 43)) := ((Below.refl _ _).drew).alloc (Nat.le_refl _) _
  have hkk := grown_keeps hgr
  have hwb : ∀ k, (Value.slice aw n cw).ownBlock = some k → k ≠ xb ∧ (∀ m', x.mo = some m' → k ≠ m') ∧ vb.ownBlock ≠ some k ∧ k ≠ fb := fun k hk => by
    obtain ⟨cur, hc⟩ := own_blk h3 hk
    refine ⟨cells_ne hc h1 (by decide), fun m' hm' => ?_, fun e => ?_, cells_ne hc hfb (by decide)⟩
    · obtain ⟨es, cl, hmb⟩ := (h5 m' hm').2.blk
      exact (map_ne_cells hmb hc).symm
    · obtain ⟨cur2, hc2⟩ := own_blk h2 e
      exact cells_ne hc hc2 (by decide) rfl
  have hvb : ∀ k, vb.ownBlock = some k → k ≠ xb := fun k hk => by
    obtain ⟨cur, hc⟩ := own_blk h2 hk
    exact cells_ne hc h1 (by decide)
  have hmx : ∀ m', x.mo = some m' → m' ≠ xb := fun m' hm' => by
    obtain ⟨es, cl, hmb⟩ := (h5 m' hm').2.blk
    exact map_ne_cells hmb h1
  have hlx := (Array.getElem?_eq_some_iff.1 h1).1
  have hlf := (Array.getElem?_eq_some_iff.1 hfb).1
  have hfx : fb ≠ xb := cells_ne hfb h1 (by decide)
  have hx4 := (hkk.block xb (Nat.lt_of_lt_of_le hlx hb1.size) (fun c => (hwb xb c).1 rfl)).trans ((hb1.block _ hlx).trans h1)
  have hf4 := (hkk.block fb (Nat.lt_of_lt_of_le hlf hb1.size) (fun c => (hwb fb c).2.2.2 rfl)).trans ((hb1.block _ hlf).trans hfb)
  have hg2 : w.heap.size ≤ g2 ∧ g2 ≠ xb := by
    rcases hat with h | h
    · exact ⟨hnw g2 h, (hwb g2 h).1⟩
    · have := hk.size; exact ⟨by omega, by omega⟩
  have sk := setCell_keeps w4 xb 5 (.slice (some ⟨g2, 0, none⟩) (n + 1) cap2)
  have hx5 := setCell_same hx4 5 (.slice (some ⟨g2, 0, none⟩) (n + 1) cap2)
  have hB0 := below_fr hb1 (fun _ => false) false
  refine ⟨⟨h0, ⟨vb, .slice (some ⟨g2, 0, none⟩) (n + 1) cap2, hx5, own_keepsS (own_keepsS (own_fr h2 hB0 rfl) hkk fun k hk c => (hwb k c).2.2.1 hk) sk fun k hk c => hvb k hk c, ?_, h4⟩, fun m' hm' => ⟨(h5 m' hm').1, keeps_mp (keeps_mp ((h5 m' hm').2.below hb1) hkk fun c => (hwb m' c).2.1 m' hm' rfl) sk fun c => hmx m' hm' c⟩, h6, fun e => by simp at e⟩, ?_, ?_, .slice (some ⟨g2, 0, none⟩) (n + 1) cap2, by rw [hcell hx5]; rfl, fun k hk => by simp only [Value.ownBlock, Option.some.injEq] at hk; omega⟩
  · have e1 : (wy ++ [(b, s')]).length = n + 1 := by simp [hn]
    simp only [e1, flatS_snoc]
    exact own_keepsS hown sk fun k hk c => by simp only [Value.ownBlock, Option.some.injEq] at hk; omega
  · refine ⟨sk.os.trans (hkk.os.trans (hb1.os.trans hk.os)), sk.tape.trans (hkk.tape.trans (hb1.tape.trans hk.tape)), sk.output.trans (hkk.output.trans (hb1.output.trans hk.output)), Nat.le_trans hk.size (Nat.le_trans hb1.size (Nat.le_trans hkk.size sk.size)), fun j hj hne => ?_⟩
    have hj2 := Nat.lt_of_lt_of_le hj hk.size
    have hj3 := Nat.lt_of_lt_of_le hj2 hb1.size
    rw [sk.block j (Nat.lt_of_lt_of_le hj3 hkk.size) hne, hkk.block j hj3 (fun c => by have := hnw j c; omega), hb1.block j hj2, hk.block j hj hne]
  · rw [sk.block fb (Nat.lt_of_lt_of_le (Nat.lt_of_lt_of_le hlf hb1.size) hkk.size) hfx]; exact hf4
set_option maxRecDepth 10000 in
set_option maxHeartbeats 4000000 in
theorem found_any {w : World} {lo xb m k : Nat} {x : WY} {s : Int} (h : WayAt w lo xb x) (hlo : lo ≤ w.heap.size) (hm : x.mo = some m) (hl : x.l.length ≤ 10000) (hah : Ahead x.l) (hnd : (bks x.l).Nodup) (hbw : ∀ b ∈ bks x.l, (Lit.int .i64 b).wf = true) (hk : k < x.l.length) (hw : x.way = []) :
    Calls Tryz.prog 253 #[.pointer (some ⟨xb, 0, none⟩), .int .i64 k, .int .i64 s] w fun e w' => e = .returned (.tuple #[]) ∧ WayAt w' lo xb { x with way := wway x.l k s, over := true } ∧ Keeps (· = xb) w w' := by
  obtain ⟨P, hP⟩ : ∃ P, P = wpath x.l x.l.length k s := ⟨_, rfl⟩
  have hPl : P.length ≤ 10000 := by rw [hP]; exact Nat.le_trans (wpath_len _ _ _ _) hl
  have on0 : OnWay x.l P [] k s := .inr ⟨k, x.l.length, rfl, hk, hk, by rw [hP]; rfl⟩
  have hww : wway x.l k s = P.reverse := by rw [hP]; rfl
  obtain ⟨i0, hi0, hz0, hz1, hz2⟩ := info_parts info_spot3
  have HI := Lib.hid hi0; have HZ0 := Lib.hid hz0; have HZ1 := Lib.hid hz1; have HZ2 := Lib.hid hz2
  clear hi0 hz0 hz1 hz2
  have hwy0 : WayAt w lo xb { x with way := [] } := by rw [← hw]; exact h
  have HW0 := Lib.hid hwy0; have HLO := Lib.hid hlo; have HM := Lib.hid hm; have HL := Lib.hid hl; have HAH := Lib.hid hah; have HND := Lib.hid hnd; have HBW := Lib.hid hbw; have HP := Lib.hid hPl; have ON0 := Lib.hid on0; have HWW := Lib.hid hww
  clear h hlo hm hl hah hnd hbw hk hw hP hPl on0 hww hwy0
  have hb1 := below_alloc w (.cells #[.int .i64 k, .int .i64 s] 269)
  have hz1 := heap_alloc_new w (.cells #[.int .i64 k, .int .i64 s] 269)
  have HB1 := Lib.hid hb1; have HZ1' := Lib.hid hz1
  clear hb1 hz1
  go_enter Tryz.func253, Tryz.ntmps253
  go_wp2
  change Code.wp _ _ _ _ (w.alloc (.cells #[.int .i64 k, .int .i64 s] 269))
  go_loopw [6] (fun v wr => ∃ (i s' : Int) (fb : Nat) (wy : List (Int × Int)), v = .pointer (some ⟨fb, 0, none⟩) ∧ wr.heap[fb]? = some (.cells #[.int .i64 i, .int .i64 s'] 269 (0, 0)) ∧ w.heap.size ≤ fb ∧ OnWay x.l P wy i s' ∧ WayAt wr lo xb { x with way := wy } ∧ Keeps (· = xb) w wr ∧ ∃ vw, wr.cell? ⟨xb, 5, none⟩ = some vw ∧ ∀ k, vw.ownBlock = some k → w.heap.size ≤ k) (fun v wr => fmsr v wr)
  case atStart => exact ⟨k, s, _, [], rfl, HZ1'.out, Nat.le_refl _, ON0.out, HW0.out.below HB1.out, below_keeps HB1.out _, _, (HW0.out.below HB1.out).noWay rfl, fun k hk => by cases hk⟩
  case round =>
    clear HZ1' HB1 ON0 HW0
    obtain ⟨i, s', fb, wy, rfl, hfb, hfl, hon, hwa, hkp, vw, hc5, hnw⟩ := hrel
    have z0 := hcell hfb 0
    have z1 := hcell hfb 1
    obtain ⟨h0, ⟨vb, vw', h1, h2, h3, h4⟩, h5, h6, h7⟩ := hwa
    obtain rfl : vw' = vw := by rw [hcell h1] at hc5; exact Option.some.inj hc5
    have hwb : ∀ k, vw'.ownBlock = some k → k ≠ xb ∧ (∀ m', x.mo = some m' → k ≠ m') ∧ vb.ownBlock ≠ some k := fun k hk => by
      obtain ⟨cur, hc⟩ := own_blk h3 hk
      refine ⟨cells_ne hc h1 (by decide), fun m' hm' => ?_, fun e => ?_⟩
      · obtain ⟨es, cl, hmb⟩ := (h5 m' hm').2.blk
        exact (map_ne_cells hmb hc).symm
      · obtain ⟨cur2, hc2⟩ := own_blk h2 e
        exact cells_ne hc hc2 (by decide) rfl
    have hvb : ∀ k, vb.ownBlock = some k → k ≠ xb := fun k hk => by
      obtain ⟨cur, hc⟩ := own_blk h2 hk
      exact cells_ne hc h1 (by decide)
    have hmx : ∀ m', x.mo = some m' → m' ≠ xb := fun m' hm' => by
      obtain ⟨es, cl, hmb⟩ := (h5 m' hm').2.blk
      exact map_ne_cells hmb h1
    obtain ⟨c0, c1, c2, c3, c4, c5, c6, c7⟩ := wy_cells h1
    rcases hon with ⟨rfl, hPe⟩ | ⟨ii, n, rfl, hil, hin, hPe⟩
    · -- the end
      have hrv := srev_any h3 (by simp only; rw [← hPe]; have := HP.out; omega)
      have H1 := Lib.hid h1; have H2 := Lib.hid h2; have H4 := Lib.hid h4; have H5 := Lib.hid h5; have H6 := Lib.hid h6; have H7 := Lib.hid h7; have HWB := Lib.hid hwb; have HVB := Lib.hid hvb; have HMX := Lib.hid hmx; have HK := Lib.hid hkp; have HNW := Lib.hid hnw; have H0 := Lib.hid h0; have HPE := Lib.hid hPe; have HC5 := Lib.hid hc5
      clear h0 h1 h2 h3 h4 h5 h6 h7 hwb hvb hmx hkp hnw hPe hc5 hfb hfl
      go_upto_region 8 with (go_at_call 263; refine hrv.mono ?_; intro e w2 hh; obtain ⟨hh1, o2, k2⟩ := hh; subst hh1; have O2 := Lib.hid o2; have K2 := Lib.hid k2; clear o2 k2 hrv c0 c1 c2 c3 c4 c5 c6 c7)
      have hlt := (Array.getElem?_eq_some_iff.1 H1.out).1
      have g1 := (K2.out.block xb hlt (fun c => (HWB.out xb c).1 rfl)).trans H1.out
      have g6 := hcell g1 6
      have gf := hfrz g1 6
      have sk := setCell_keeps w2 xb 6 (.bool true)
      have fin : Hid (WayAt (w2.setCell ⟨xb, 6, none⟩ (.bool true)) lo xb { x with way := wway x.l k s, over := true } ∧ Keeps (· = xb) w (w2.setCell ⟨xb, 6, none⟩ (.bool true))) := by
        rw [HWW.out, HPE.out]
        refine ⟨⟨H0.out, ⟨vb, vw', setCell_same g1 6 _, own_keepsS (own_keepsS H2.out K2.out fun k hk c => (HWB.out k c).2.2 hk) sk fun k hk c => HVB.out k hk c, own_keepsS O2.out sk fun k hk c => (HWB.out k hk).1 c, H4.out⟩, fun m' hm' => ⟨(H5.out m' hm').1, keeps_mp (keeps_mp (H5.out m' hm').2 K2.out fun c => (HWB.out m' c).2.1 m' hm' rfl) sk fun c => HMX.out m' hm' c⟩, H6.out, fun e => ?_⟩, ?_⟩
        · have e2 : wy = [] := by simpa using e
          have := H7.out e2
          rw [hcell H1.out] at this
          rw [hcell (setCell_same g1 6 _)]
          exact this
        · refine ⟨sk.os.trans (K2.out.os.trans HK.out.os), sk.tape.trans (K2.out.tape.trans HK.out.tape), sk.output.trans (K2.out.output.trans HK.out.output), Nat.le_trans HK.out.size (Nat.le_trans K2.out.size sk.size), fun j hj hne => ?_⟩
          have hj2 := Nat.lt_of_lt_of_le hj HK.out.size
          rw [sk.block j (Nat.lt_of_lt_of_le hj2 K2.out.size) hne, K2.out.block j hj2 (fun c => by have := HNW.out j c; omega), HK.out.block j hj hne]
      clear g1 sk
      go_wp2
      go_end0
      exact ⟨rfl, fin.out.1, fin.out.2⟩
    · -- a spot more
      have hne : ((ii : Int) != -1) = true := bne_iff_ne.2 (by omega)
      have HZF := Lib.hid z0
      obtain ⟨g, cap, hvs, hgc, -⟩ := row1_at h2 ii hil _ (intV_at x.l ii hil)
      obtain ⟨b, hb⟩ : ∃ b, b = (nd x.l ii).1 := ⟨_, rfl⟩
      rw [← hb] at hgc
      have HBB := Lib.hid hb
      clear hb
      have i0' : (0 : Int) ≤ ii := by omega
      have i1 : (ii : Int) < x.l.length := by omega
      rw [hvs] at c2
      have y2 := fun st : ExtW wr => st.cell c2
      have yz := fun st : ExtW wr => st.cell z0
      have yg := fun st : ExtW wr => st.cell hgc
      go_upto_region 2 with (fail)
      refine wp_region_ext (by kernel_rfl) (by kernel_rfl) ?_
      repeat (go_big_quiet_step (fail))
      refine wpQuiet_nil ?_
      rintro W ⟨⟨W2, hW⟩, rfl⟩
      have hlt := (Array.getElem?_eq_some_iff.1 h1).1
      have hft := (Array.getElem?_eq_some_iff.1 hfb).1
      obtain ⟨aw, cw, hvw, hcw⟩ := own_sl3 h3
      have hlen : wy.length ≤ 10000 := by
        have := HP.out; have e := congrArg List.length hPe; rw [List.length_append] at e; omega
      have bD : Below wr.heap.size wr W.drew := hW.drew
      have g1 := (hW.block _ hlt).trans h1
      have gf := (hW.block _ hft).trans hfb
      have x5 : W.cell? ⟨xb, 5, none⟩ = some (.slice aw wy.length cw) := by rw [← hvw]; exact hcell g1 5
      have x0 : W.cell? ⟨xb, 0, none⟩ = some (.int .i64 x.bits) := hcell g1 0
      have f1 : W.cell? ⟨fb, 1, none⟩ = some (.int .i64 s') := hcell gf 1
      have al : ∀ (o : Obj) {q j : Nat} {u : Value}, W.cell? ⟨q, j, none⟩ = some u → (W.alloc o).cell? ⟨q, j, none⟩ = some u := fun o q j u hu => by rw [World.cell?_alloc_past _ _ _ (World.block_lt_of_cell? _ _ hu)]; exact hu
      have x5' := fun o => al o x5
      have x0' := fun o => al o x0
      have f1' := fun o => al o f1
      have HNW2 : Hid (((W.drew).alloc (.cells #[.int .i64 x.bits, .int .i64 b, .int .i64 s'] 43)).heap[W.heap.size]? = some (.cells #[.int .i64 x.bits, .int .i64 b, .int .i64 s'] 43 (0, 0))) := heap_alloc_new (W.drew) _
      have HWA2 : Hid (Below W.heap.size W ((W.drew).alloc (.cells #[.int .i64 x.bits, .int .i64 b, .int .i64 s'] 43))) := ((Below.refl _ _).drew).alloc (Nat.le_refl _) _
      have HWW2 : Hid (WayAt W lo xb { x with way := wy }) := WayAt.below ⟨h0, ⟨vb, vw', h1, h2, h3, h4⟩, h5, h6, h7⟩ hW
      have HC5 := Lib.hid x5
      have HKP2 : Hid (Keeps (fun k => k = xb) w W) := (hkp.trans (below_keeps hW (fun _ => False))).mono fun k _ c => by rcases c with c | c; exact c; exact absurd c id
      have O3 := Lib.hid (own_fr h3 (below_fr hW (fun _ => false) false) rfl)
      have H1 := Lib.hid g1; have HF := Lib.hid gf; have H2 := Lib.hid (own_fr h2 (below_fr hW (fun _ => false) false) rfl); have H4 := Lib.hid h4; have H5 := Lib.hid h5; have H6 := Lib.hid h6; have HWB := Lib.hid hwb; have HVB := Lib.hid hvb; have HMX := Lib.hid hmx; have HKP := Lib.hid (hkp.trans (below_keeps hW (fun _ => False))); have HNW := Lib.hid hnw; have H0 := Lib.hid h0; have HPE := Lib.hid hPe; have HVW := Lib.hid hvw; have HIL := Lib.hid hil; have HIN := Lib.hid hin; have HFL := Lib.hid hfl; have HLN := Lib.hid hlen; have HWR := Lib.hid (And.intro hkp.size hW); have HFT := Lib.hid (And.intro hlt hft)
      clear h0 h1 h2 h3 h4 h5 h6 h7 hwb hvb hmx hkp hnw hPe hc5 hfb c0 c1 c2 c3 c4 c5 c6 c7 y2 yz yg hgc z0 z1 hvw hil hin hfl hlen hW bD g1 gf hlt hft i0' i1 hne hvs
      go_wp2_with fail
      go_cut [39] (fun v39 wx => WayAt wx lo xb { x with way := wy ++ [(b, s')] } ∧ Keeps (fun k => k = xb) w wx ∧ wx.heap[fb]? = some (.cells #[.int .i64 ii, .int .i64 s'] 269 (0, 0)) ∧ ∃ vw, wx.cell? ⟨xb, 5, none⟩ = some vw ∧ ∀ k, vw.ownBlock = some k → w.heap.size ≤ k)
      case first =>
        go_region_law ((refine step_append_lies _ (by rfl) _ _ _ (by rfl) lo 43 i0 _ 3 24 Tryz.underlying145 HI.out HZ0.out HZ1.out HZ2.out rfl (by decide) (.slice aw wy.length cw) wy.length (flatS x.bits wy) (by rfl) (by rw [← HVW.out]; exact (O3.out.drew).alloc _) ⟨W.heap.size, 0, none⟩ 1 1 [.int .i64 x.bits, .int .i64 b, .int .i64 s'] (by rfl) (by rfl) (World.news_of_block (cs := #[.int .i64 x.bits, .int .i64 b, .int .i64 s']) (t := 43) (fr := (0, 0)) HNW2.out) (by simp [Value.oneCell']) (by omega) (by have := HLN.out; unfold maxLen; omega) (by have := HLN.out; omega) (by have := HLO.out; have := HWR.out.1; have := HWR.out.2.size; simp; omega) (W.heap.size + 1) (by simp) ?_; intro g2 cap2 w4 hown1 hgrow hat hlt4; have HOW := Lib.hid hown1; have HGR := Lib.hid hgrow; have HAT := Lib.hid hat; have hkk := grown_keeps hgrow; rw [← HVW.out] at hkk; have hq4 : w4.heap[xb]? = some (.cells (({ x with way := wy } : WY).cells vb vw') 267 (0, 0)) := (hkk.block xb (by have := HFT.out.1; have := HWR.out.2.size; simp; omega) (fun c => (HWB.out xb c).1 rfl)).trans ((HWA2.out.block _ (Array.getElem?_eq_some_iff.1 H1.out).1).trans H1.out); have t0 : w4.cell? ⟨xb, 5, none⟩ = some (.slice aw wy.length cw) := (by rw [← HVW.out]; exact hcell hq4 5); have t1 := hfrz hq4 5; have HQ4 := Lib.hid hq4; have HKK := Lib.hid hkk; clear hown1 hgrow hat hlt4 hq4 hkk))
        all_goals (try go_wp2_with fail)
        all_goals go_meet
        all_goals
          exact fnd_step HWW2.out HC5.out rfl (by rw [← HVW.out]; exact HNW.out) HKP2.out HF.out HOW.out HGR.out HAT.out
      case rest =>
        obtain ⟨ha, hka, hfa, vw2, hv2, hn2⟩ := hcut
        clear x5 x0 f1 x5' x0' f1' al
        obtain ⟨-, ⟨-, -, -, -, -, -⟩, hmp, -, -⟩ := id ha
        have hx1 := ha.ex
        obtain ⟨va, vc, hxa, -⟩ := hx1
        have c3 := hcell hxa 3
        have hmpm := (hmp m HM.out).2
        have hbk := backF_at HND.out HIL.out
        rw [← HBB.out] at hbk
        have hbwf := HBW.out b (by rw [HBB.out]; exact nd_mem HIL.out)
        have hlk := hmpm.look hbwf hbk
        unfold prV at hlk
        obtain ⟨fr, sl, hfs⟩ : ∃ fr sl, (nd x.l ii).2 = (fr, sl) := ⟨_, _, rfl⟩
        rw [hfs] at hlk
        simp only at hlk
        have c3' := c3.trans (show _ = some (Value.map (some m)) from by show some (Value.map x.mo) = _; rw [HM.out])
        have q0 := hcell hfa 0
        have q1 := hcell hfa 1
        have p0 := hfrz hfa 0
        have p1 := hfrz hfa 1
        have HA := Lib.hid ha; have HKA := Lib.hid hka; have HFA := Lib.hid hfa; have HV2 := Lib.hid hv2; have HN2 := Lib.hid hn2; have HFS := Lib.hid hfs; have HXA := Lib.hid hxa
        clear ha hka hfa hv2 hn2 hfs hxa c3 hmp hmpm hbk
        go_upto_region 5 with (fail)
        have y1 := setCell_same HFA.out 0 (.int .i64 fr)
        have y2 := setCell_same y1 1 (.int .i64 sl)
        have t1 := set_ty HFA.out 0 (.int .i64 fr)
        have t2 := set_ty y1 1 (.int .i64 sl)
        have ha6 := HA.out.fr (t1.trans t2) (fun T hT => by unfold yTy at hT; simp only [Bool.or_eq_true, beq_iff_eq] at hT; rcases hT with (rfl | rfl) | rfl <;> rfl)
        have hk6 := (HKA.out.trans (setk_of HFA.out 0 (.int .i64 fr))).trans (setk_of y1 1 (.int .i64 sl))
        have hx6 := (t1.trans t2).cells _ _ _ _ HXA.out rfl
        have hv6 := (hcell hx6 5).trans ((hcell HXA.out 5).symm.trans HV2.out)
        clear q0 q1 p0 p1 hlk c3' t1 t2 y1 hx6
        generalize (World.setCell _ ⟨fb, 0, none⟩ (.int .i64 fr)).setCell ⟨fb, 1, none⟩ (.int .i64 sl) = w6 at *
        have q0 := hcell y2 0
        have q1 := hcell y2 1
        have hb7 := below_alloc w6 (.cells #[.int .i64 fr, .int .i64 sl] 269)
        have hz7 := heap_alloc_new w6 (.cells #[.int .i64 fr, .int .i64 sl] 269)
        have HB7 := Lib.hid hb7; have HZ7 := Lib.hid hz7; have HA6 := Lib.hid ha6; have HK6 := Lib.hid hk6; have HV6 := Lib.hid hv6
        clear hb7 hz7 ha6 hk6 hv6 y2
        have hfrb := HAH.out ii HIL.out
        rw [HFS.out] at hfrb
        have hlast : OnWay x.l P (wy ++ [(b, s')]) fr sl := by
          have hpe := HPE.out
          obtain ⟨n', hn'⟩ : ∃ n', n = n' + 1 := ⟨n - 1, by have := HIN.out; omega⟩
          rw [hn'] at hpe
          have e : wpath x.l (n' + 1) ii s' = (b, s') :: (if fr = -1 then [] else wpath x.l n' fr.toNat sl) := by
            show ((nd x.l ii).1, s') :: (if (nd x.l ii).2.1 = -1 then [] else wpath x.l n' (nd x.l ii).2.1.toNat (nd x.l ii).2.2) = _
            rw [HFS.out, ← HBB.out]
          rw [e] at hpe
          by_cases hf1 : fr = -1
          · rw [if_pos hf1] at hpe
            exact .inl ⟨hf1, by rw [hpe]⟩
          · rw [if_neg hf1] at hpe
            simp only at hfrb
            have h2 : 0 ≤ fr ∧ fr < ii := by rcases hfrb with c | c; exact absurd c hf1; exact c
            exact .inr ⟨fr.toNat, n', by omega, by have := HIL.out; omega, by have := HIN.out; omega, by rw [hpe]; simp⟩
        have HON := Lib.hid hlast
        have HFR := Lib.hid hfrb
        clear hlast hfrb
        go_wp2_with fail
        go_roundw
        case rel =>
          refine ⟨fr, sl, w6.heap.size, wy ++ [(b, s')], rfl, HZ7.out, ?_, HON.out, HA6.out.below HB7.out, ?_, _, (HB7.out.cell (p := ⟨xb, 5, none⟩) (World.block_lt_of_cell? _ _ HV6.out)).trans HV6.out, HN2.out⟩
          · exact HK6.out.size
          · refine (HK6.out.trans (below_keeps HB7.out fun _ => False)).mono fun k hk c => ?_
            have := HFL.out
            rcases c with ((c | c) | c) | c
            · exact c
            · omega
            · omega
            · exact absurd c id
        case measure =>
          have e1 := hcell HZ7.out 0
          have e2 := HZF.out
          simp only [List.getElem?_toArray, List.getElem?_cons_zero] at e1 e2
          have := HFR.out
          simp only at this
          show fmsr (.pointer (some ⟨w6.heap.size, 0, none⟩)) _ < fmsr (.pointer (some ⟨fb, 0, none⟩)) _
          unfold fmsr
          simp only [e1, e2]
          omega
end Go.Proofs.YtdbgfidnccpmdaaGreat

/-
  A Way beside a world.
-/
namespace Go.Proofs.YtdbgfidnccpmdaaGreat
open Go.RowKit Go.Maps
set_option linter.unusedVariables false

/-- Some blocks turn that are none of the world's. -/
theorem WS.byk {w0 w w' : World} {B : WB} {V : WV} {s : CS} {S : Nat → Prop} (h : WS w0 w B V s) (hk : Keeps S w w') (hS : ∀ k, S k → w0.heap.size ≤ k ∧ ((∃ cs T fr, w.heap[k]? = some (.cells cs T fr) ∧ wTy T = false) ∨ ((∃ es cl, w.heap[k]? = some (.map es cl)) ∧ w.cell? ⟨B.cb, 0, none⟩ ≠ some (.map (some k)) ∧ ∀ q ∈ V.fm, q.1 ≠ k))) :
    WS w0 w' B V s ∧ w'.cell? ⟨B.cb, 0, none⟩ = w.cell? ⟨B.cb, 0, none⟩ := by
  have hno : ∀ (k : Nat) (cs : Array Value) (T : TypeId) (fr : Nat × Nat), w.heap[k]? = some (.cells cs T fr) → wTy T = true → ¬ S k := fun k cs T fr hc hT c => by
    rcases (hS k c).2 with ⟨cs2, T2, fr2, h2, h3⟩ | ⟨⟨es, cl, h2⟩, -⟩
    · have := hc.symm.trans h2
      simp only [Option.some.injEq, Obj.cells.injEq] at this
      rw [← this.2.1, hT] at h3; cases h3
    · rw [hc] at h2; cases h2
  have hcl : ∀ (k : Nat) (cs : Array Value) (T : TypeId) (fr : Nat × Nat), w.heap[k]? = some (.cells cs T fr) → wTy T = true → w'.heap[k]? = some (.cells cs T fr) := fun k cs T fr hc hT => (hk.block k (Array.getElem?_eq_some_iff.1 hc).1 (hno k cs T fr hc hT)).trans hc
  have hf : Fr (fun T => !wTy T) true w w' := ⟨hk.size, fun k cs T fr hc hT => hcl k cs T fr hc (by simpa using hT), fun h => by cases h⟩
  have hB : Below w0.heap.size w0 w' := keeps_below hk h.below h.below.size fun k c => (hS k c).1
  obtain ⟨cs, hh⟩ := own_hdr h.own
  have e : w'.cell? ⟨B.cb, 0, none⟩ = w.cell? ⟨B.cb, 0, none⟩ := by
    have := hcl _ _ _ _ hh rfl
    unfold World.cell?; simp only; rw [this, hh]
  have ho : Own w0 w' B.cb s := by
    obtain ⟨⟨S', hS'⟩, _⟩ := h.own
    refine ⟨⟨S', hS'.keep fun k hk2 => ?_⟩, hB⟩
    obtain ⟨mo, f, hA, rfl⟩ := hS'
    have hn : ¬ S k := by
      intro c
      rcases hk2 with rfl | hm | ⟨a, ha⟩
      · exact hno _ _ _ _ hA.hdr rfl c
      · obtain ⟨⟨D, ⟨es, cl, hb, _⟩, _⟩, _⟩ := hA.map k hm
        rcases (hS k c).2 with ⟨cs2, T2, fr2, h2, h3⟩ | ⟨-, h2, -⟩
        · rw [hb] at h2; cases h2
        · exact h2 (by simp [World.cell?, hA.hdr, hdrC, hm])
      · exact hno _ _ _ _ (hA.ptr a k ha).1 rfl c
    refine hk.block k ?_ hn
    rcases hk2 with rfl | hm | ⟨a, ha⟩
    · exact (Array.getElem?_eq_some_iff.1 hA.hdr).1
    · exact (hA.map k hm).1.lt
    · exact (Array.getElem?_eq_some_iff.1 (hA.ptr a k ha).1).1
  obtain ⟨SA, ha⟩ := h.ar
  refine ⟨⟨ho, hf.cells _ _ _ _ h.blk rfl, h.lo, ⟨SA, ha.fr hf rfl rfl rfl⟩, h.nt.fr hf rfl rfl, h.tkl, fun q hq => ?_⟩, e⟩
  obtain ⟨h1, h2⟩ := h.fmk q hq
  refine ⟨(hk.block q.1 (Array.getElem?_eq_some_iff.1 h1).1 fun c => ?_).trans h1, by rw [e]; exact h2⟩
  rcases (hS q.1 c).2 with ⟨cs2, T2, fr2, h3, h4⟩ | ⟨-, -, h3⟩
  · rw [h1] at h3; cases h3
  · exact h3 q hq rfl
/-- The map lies beside the world. -/
structure Besd (w : World) (B : WB) (V : WV) (m : Nat) : Prop where
  ne : w.cell? ⟨B.cb, 0, none⟩ ≠ some (.map (some m))
  fm : ∀ q ∈ V.fm, q.1 ≠ m
theorem w_not_y (T : TypeId) (h : yTy T = true) : wTy T = false := by
  unfold yTy at h
  simp only [Bool.or_eq_true, beq_iff_eq] at h
  rcases h with (rfl | rfl) | rfl <;> rfl
/-- An access of the world leaves a Way. -/
theorem way_world {w0 w : World} {B : WB} {V : WV} {s : CS} {xb m : Nat} {x : WY} (h : WS w0 w B V s) (hx : WayAt w w0.heap.size xb x) (hm : x.mo = some m) (hb : Besd w B V m) : ∃ V2 : WV, WS w0 w B V2 s ∧ ∀ w2 s2, WS w0 w2 B V2 s2 → Fr wTy true w w2 → WS w0 w2 B V s2 ∧ WayAt w2 w0.heap.size xb x ∧ Besd w2 B V m := by
  obtain ⟨es, cl, hmb⟩ := (hx.mp m hm).2.blk
  refine ⟨{ V with fm := (m, es, cl) :: V.fm }, h.more hmb hb.ne, fun w2 s2 h2 hf => ?_⟩
  obtain ⟨g1, g2⟩ := h2.fmk (m, es, cl) (by simp)
  exact ⟨h2.less V.fm (fun q hq => by simp [hq]), hx.frm hf w_not_y (fun m' hm' => by rw [hm] at hm'; cases hm'; exact g1.trans hmb.symm), g2, hb.fm⟩
/-- A node's turn leaves the world. -/
theorem way_node {w0 w w' : World} {B : WB} {V : WV} {s : CS} {xb m : Nat} {x : WY} (h : WS w0 w B V s) (hx : WayAt w w0.heap.size xb x) (hm : x.mo = some m) (hb : Besd w B V m) (hk : Keeps (NSet xb x.kb m) w w') : WS w0 w' B V s ∧ Besd w' B V m := by
  obtain ⟨h0, ⟨vb, vw, h1, h2, h3, h4⟩, h5, h6, h7⟩ := hx
  obtain ⟨es, cl, hmb⟩ := (h5 m hm).2.blk
  have key := h.byk hk fun k c => by
    rcases c with rfl | rfl | rfl
    · exact ⟨h0, .inl ⟨_, _, _, h1, rfl⟩⟩
    · rcases h4 with h4 | ⟨-, h4⟩
      · obtain ⟨-, ⟨rfl, -⟩ | ⟨g, cap, cur, rfl, hg, hc, -⟩⟩ := h2
        · cases h4
        · simp only [Value.ownBlock, Option.some.injEq] at h4
          subst h4
          exact ⟨hg, .inl ⟨_, _, _, hc, rfl⟩⟩
      · rw [h4]; exact ⟨h0, .inl ⟨_, _, _, h1, rfl⟩⟩
    · exact ⟨(h5 _ hm).1, .inr ⟨⟨es, cl, hmb⟩, hb.ne, hb.fm⟩⟩
  exact ⟨key.1, by rw [key.2]; exact hb.ne, hb.fm⟩
/-- A frame: of the old blocks only such of a world, and two, have turned. -/
structure Fy (b c : Nat) (w w' : World) : Prop where
  size : w.heap.size ≤ w'.heap.size
  cells : ∀ (k : Nat) (cs : Array Value) (T : TypeId) (fr : Nat × Nat), w.heap[k]? = some (.cells cs T fr) → wTy T = false → k ≠ b → k ≠ c → w'.heap[k]? = some (.cells cs T fr)
theorem Fy.trans {b c d : Nat} {w w' w'' : World} (h : Fy b c w w') (k : Fy b d w' w'') (hd : d = c ∨ w.heap.size ≤ d) : Fy b c w w'' :=
  ⟨Nat.le_trans h.size k.size, fun i cs T fr h1 h2 h3 h4 => k.cells i cs T fr (h.cells i cs T fr h1 h2 h3 h4) h2 h3 (by
    have := (Array.getElem?_eq_some_iff.1 h1).1
    rcases hd with rfl | hd
    · exact h4
    · omega)⟩
theorem fr_fy {w w' : World} (h : Fr wTy true w w') (b c : Nat) : Fy b c w w' := ⟨h.size, fun k cs T fr h1 h2 _ _ => h.cells k cs T fr h1 h2⟩
theorem below_fy {w w' : World} (h : Below w.heap.size w w') (b c : Nat) : Fy b c w w' := fr_fy (below_fr h wTy true) b c
theorem keeps_fy {b c m : Nat} {w w' : World} {es : Array MapEntry} {cl : Nat} (h : Keeps (NSet b c m) w w') (hm : w.heap[m]? = some (.map es cl)) : Fy b c w w' :=
  ⟨h.size, fun k cs T fr h1 _ h3 h4 => (h.block k (Array.getElem?_eq_some_iff.1 h1).1 (fun e => by
    rcases e with e | e | e
    · exact h3 e
    · exact h4 e
    · subst e; rw [h1] at hm; cases hm)).trans h1⟩
theorem keep1_fy {b c : Nat} {w w' : World} (h : Keeps (fun k => k = b) w w') : Fy b c w w' := ⟨h.size, fun k cs T fr h1 _ h3 _ => (h.block k (Array.getElem?_eq_some_iff.1 h1).1 h3).trans h1⟩
end Go.Proofs.YtdbgfidnccpmdaaGreat

/-
  A Way begins.
-/
namespace Go.Proofs.YtdbgfidnccpmdaaGreat
open Go.RowKit Go.Maps
set_option linter.unusedVariables false

def wvoid (kb : Nat) : WY := ⟨0, 0, [], 0, [], false, false, kb, none⟩
def wnew (bits most a b : Int) (kb m : Nat) : WY := ⟨bits, most, wfirst a b, 0, [], false, true, kb, some m⟩
theorem nodeL_two (a b : Int) : nodeL b (-1, -1) (nodeL a (-1, -1) []) = wfirst a b := by
  have e1 : nodeL a (-1, -1) [] = [(a, (-1, -1))] := if_neg (by simp [bks])
  rw [e1]
  unfold nodeL wfirst
  by_cases h : b = a
  · rw [if_pos h, if_pos (by simp [bks, h])]
  · rw [if_neg h, if_neg (by simp [bks, h])]; rfl
def wzero : Array Value := #[.int .i64 0, .int .i64 0, .slice none 0 0, .map none, .int .i64 0, .slice none 0 0, .bool false, .bool false]
theorem wvoid_at {w w1 : World} (hb : Below w.heap.size w w1) : WayAt (w1.alloc (.cells wzero 267)) w.heap.size w1.heap.size (wvoid w1.heap.size) ∧ Below w.heap.size w (w1.alloc (.cells wzero 267)) :=
  ⟨⟨hb.size, ⟨.slice none 0 0, .slice none 0 0, heap_alloc_new w1 _, World.ownsRow_nil _ _ _ _, World.ownsRow_nil _ _ _ _, .inr ⟨rfl, rfl⟩⟩, fun m hm => (by cases hm), fun h => (by cases h), fun _ => by rw [hcell (heap_alloc_new w1 _)]; rfl⟩, hb.trans ((below_alloc w1 _).mono hb.size)⟩
theorem tsize_bdW (b : Int) : 0 ≤ tsize b ∧ tsize b ≤ 4096 := by
  by_cases h : b < 1 ∨ 12 < b
  · rw [tsize_out h]; omega
  · rcases (show b = 1 ∨ b = 2 ∨ b = 3 ∨ b = 4 ∨ b = 5 ∨ b = 6 ∨ b = 7 ∨ b = 8 ∨ b = 9 ∨ b = 10 ∨ b = 11 ∨ b = 12 by omega) with rfl | rfl | rfl | rfl | rfl | rfl | rfl | rfl | rfl | rfl | rfl | rfl <;> decide
theorem ix_two0 (a b : Int) (W : World) : (Instr.index 247 (.agg #[.int .i64 a, .int .i64 b]) (.int .i64 0)).run Tryz.prog W = .ok (.int .i64 a) W := by kernel_rfl
theorem ix_two1 (a b : Int) (W : World) : (Instr.index 247 (.agg #[.int .i64 a, .int .i64 b]) (.int .i64 1)).run Tryz.prog W = .ok (.int .i64 b) W := by kernel_rfl
set_option maxRecDepth 10000 in
set_option maxHeartbeats 2000000 in
theorem newway_no (bits a b most : Int) (h : ¬ ((0 ≤ a ∧ a < tsize bits) ∧ (0 ≤ b ∧ b < tsize bits))) (w : World) : Calls Tryz.prog 57 #[.int .i64 bits, .int .i64 a, .int .i64 b, .int .i64 most] w fun e w' => ∃ xb, e = .returned (.pointer (some ⟨xb, 0, none⟩)) ∧ WayAt w' w.heap.size xb (wvoid xb) ∧ Below w.heap.size w w' := by
  have hs := fun W => size_any bits W
  have hb1 := below_alloc w (.cells #[.int .i64 bits, .int .i64 most, .slice none 0 0, .map none, .int .i64 0, .slice none 0 0, .bool false, .bool false] 267)
  have HB1 := Lib.hid hb1
  clear hb1
  have HH := Lib.hid h
  clear h
  go_enter Tryz.func57, Tryz.ntmps57
  go_upto_region 2 with (fail)
  change Code.wp _ _ _ _ (w.alloc (.cells #[.int .i64 bits, .int .i64 most, .slice none 0 0, .map none, .int .i64 0, .slice none 0 0, .bool false, .bool false] 267))
  generalize w.alloc (.cells #[.int .i64 bits, .int .i64 most, .slice none 0 0, .map none, .int .i64 0, .slice none 0 0, .bool false, .bool false] 267) = w1 at *
  go_wp2
  go_loopw [19] (fun i wr => (i = .int .i64 0 ∨ (i = .int .i64 1 ∧ 0 ≤ a ∧ a < tsize bits)) ∧ wr = w1) (fun i _ => 2 - (intOf i).toNat)
  case atStart => exact ⟨.inl rfl, rfl⟩
  case round =>
    obtain ⟨hi, rfl⟩ := hrel
    have fin := wvoid_at HB1.out
    generalize tsize bits = t at *
    rcases hi with rfl | ⟨rfl, ha⟩
    · have ix := ix_two0 a b wr
      by_cases a0 : a < 0
      · have hs0 := hs wr
        clear hs
        go_wp2
        go_ret
        exact ⟨_, rfl, fin⟩
      · by_cases a1 : t ≤ a
        · go_wp2_with (go_at_call 121; refine (hs _).mono ?_; rintro e w2 ⟨rfl, hw⟩; obtain rfl := hw.symm)
          go_ret
          exact ⟨_, rfl, fin⟩
        · clear fin
          go_wp2_with (go_at_call 121; refine (hs _).mono ?_; rintro e w2 ⟨rfl, hw⟩; obtain rfl := hw.symm)
          go_roundw
          case rel => exact ⟨.inr (by first | exact ⟨rfl, by omega, by omega⟩ | exact ⟨by omega, by omega⟩ | (simp; omega)), (by first | rfl | trivial)⟩
          case measure => simp [intOf]
    · have ix := ix_two1 a b wr
      by_cases a0 : b < 0
      · have hs0 := hs wr
        clear hs
        go_wp2
        go_ret
        exact ⟨_, rfl, fin⟩
      · have a1 : t ≤ b := by
          apply Classical.byContradiction
          intro c
          exact HH.out ⟨ha, by omega, by omega⟩
        go_wp2_with (go_at_call 121; refine (hs _).mono ?_; rintro e w2 ⟨rfl, hw⟩; obtain rfl := hw.symm)
        go_ret
        exact ⟨_, rfl, fin⟩
set_option maxRecDepth 10000 in
set_option maxHeartbeats 2000000 in
theorem newway_ok (bits a b most : Int) (ha : 0 ≤ a ∧ a < tsize bits) (hb : 0 ≤ b ∧ b < tsize bits) (w : World) : Calls Tryz.prog 57 #[.int .i64 bits, .int .i64 a, .int .i64 b, .int .i64 most] w fun e w' => ∃ xb kb m, e = .returned (.pointer (some ⟨xb, 0, none⟩)) ∧ WayAt w' w.heap.size xb (wnew bits most a b kb m) ∧ Below w.heap.size w w' ∧ w.heap.size ≤ m ∧ w.heap.size ≤ kb := by
  have hs := fun W => size_any bits W
  have hb1 := below_alloc w (.cells #[.int .i64 bits, .int .i64 most, .slice none 0 0, .map none, .int .i64 0, .slice none 0 0, .bool false, .bool false] 267)
  have hz1 := heap_alloc_new w (.cells #[.int .i64 bits, .int .i64 most, .slice none 0 0, .map none, .int .i64 0, .slice none 0 0, .bool false, .bool false] 267)
  have HB1 := Lib.hid hb1; have HZ1 := Lib.hid hz1
  have hp : 0 ≤ tsize bits ∧ tsize bits ≤ 4096 := tsize_bdW bits
  have hwa : (Lit.int .i64 a).wf = true := by simp only [Lit.wf, IntKind.min, IntKind.max, IntKind.bits, IntKind.signed]; simp; omega
  have hwb : (Lit.int .i64 b).wf = true := by simp only [Lit.wf, IntKind.min, IntKind.max, IntKind.bits, IntKind.signed]; simp; omega
  have HWA := Lib.hid hwa; have HWB := Lib.hid hwb
  clear hb1 hz1 hp hwa hwb
  generalize tsize bits = t at *
  go_enter Tryz.func57, Tryz.ntmps57
  go_upto_region 2 with (fail)
  change Code.wp _ _ _ _ (w.alloc (.cells #[.int .i64 bits, .int .i64 most, .slice none 0 0, .map none, .int .i64 0, .slice none 0 0, .bool false, .bool false] 267))
  generalize w.alloc (.cells #[.int .i64 bits, .int .i64 most, .slice none 0 0, .map none, .int .i64 0, .slice none 0 0, .bool false, .bool false] 267) = w1 at *
  obtain ⟨xq, hxq⟩ : ∃ xq, xq = w.heap.size := ⟨_, rfl⟩
  rw [← hxq] at HZ1
  simp only [← hxq]
  have HXQ := Lib.hid hxq
  clear hxq
  go_wp2
  go_loopw [19] (fun i wr => (i = .int .i64 0 ∨ i = .int .i64 1 ∨ i = .int .i64 2) ∧ wr = w1) (fun i _ => 2 - (intOf i).toNat)
  case atStart => exact ⟨.inl rfl, rfl⟩
  case round =>
    obtain ⟨hi, rfl⟩ := hrel
    rcases hi with rfl | rfl | rfl
    · have ix := ix_two0 a b wr
      have a0 : ¬ a < 0 := by omega
      have a1 : ¬ t ≤ a := by omega
      clear ha hb
      go_wp2_with (go_at_call 121; refine (hs _).mono ?_; rintro e w2 ⟨rfl, hw⟩; obtain rfl := hw.symm)
      go_roundw
      case rel => exact ⟨(by first | exact .inr (.inl rfl) | simp), (by first | rfl | trivial)⟩
      case measure => simp [intOf]
    · have ix := ix_two1 a b wr
      have a0 : ¬ b < 0 := by omega
      have a1 : ¬ t ≤ b := by omega
      clear ha hb
      go_wp2_with (go_at_call 121; refine (hs _).mono ?_; rintro e w2 ⟨rfl, hw⟩; obtain rfl := hw.symm)
      go_roundw
      case rel => exact ⟨(by first | exact .inr (.inr rfl) | simp), (by first | rfl | trivial)⟩
      case measure => simp [intOf]
    · have hmm := @run_makeMap Tryz.prog
      have hb2 := below_alloc wr (.map #[] 0)
      have hm2 := MapF.made wr
      have hzx := (hb2.block _ (Array.getElem?_eq_some_iff.1 HZ1.out).1).trans HZ1.out
      have c7 := hcell hzx 7
      have c3 := hcell hzx 3
      have hf7 := hfrz hzx 7
      have hf3 := hfrz hzx 3
      have hwm : wr.heap[wr.heap.size]? = none := Array.getElem?_eq_none (Nat.le_refl _)
      have hne : wr.heap.size ≠ xq := fun e => by have := (Array.getElem?_eq_some_iff.1 HZ1.out).1; omega
      have y1 := setCell_same hzx 7 (.bool true)
      have y2 := setCell_same y1 3 (.map (some wr.heap.size))
      have k1 := setCell_keeps (wr.alloc (.map #[] 0)) xq 7 (.bool true)
      have k2 := setCell_keeps ((wr.alloc (.map #[] 0)).setCell ⟨xq, 7, none⟩ (.bool true)) xq 3 (.map (some wr.heap.size))
      have hm3 := keeps_mp (keeps_mp hm2 k1 hne) k2 hne
      have hB0 : Below w.heap.size w wr := HB1.out
      have hB3 : Below w.heap.size w (((wr.alloc (.map #[] 0)).setCell ⟨xq, 7, none⟩ (.bool true)).setCell ⟨xq, 3, none⟩ (.map (some wr.heap.size))) :=
        keeps_below k2 (keeps_below k1 (hB0.trans (hb2.mono hB0.size)) (by have := hB0.size; have := hb2.size; omega) (fun k e => by have := HXQ.out; omega)) (by have := hB0.size; have := hb2.size; have := k1.size; omega) (fun k e => by have := HXQ.out; omega)
      have WA : WayAt (((wr.alloc (.map #[] 0)).setCell ⟨xq, 7, none⟩ (.bool true)).setCell ⟨xq, 3, none⟩ (.map (some wr.heap.size))) w.heap.size xq ⟨bits, most, [], 0, [], false, true, xq, some wr.heap.size⟩ :=
        ⟨by rw [HXQ.out]; exact Nat.le_refl _, ⟨.slice none 0 0, .slice none 0 0, y2, World.ownsRow_nil _ _ _ _, World.ownsRow_nil _ _ _ _, .inr ⟨rfl, rfl⟩⟩, fun m hm => by simp only [Option.some.injEq] at hm; subst hm; exact ⟨hB0.size, hm3⟩, fun _ => ⟨_, rfl⟩, fun _ => by rw [hcell y2]; rfl⟩
      have HWAY := Lib.hid WA; have HB3 := Lib.hid hB3
      clear WA hB3 hB0 hm3 k1 k2 y1 y2 hne hwm hm2 hb2 hzx
      go_upto_region 9 with (fail)
      clear hmm c7 c3 hf7 hf3
      have hmg : w.heap.size ≤ wr.heap.size := HB1.out.size
      generalize ((wr.alloc (.map #[] 0)).setCell ⟨xq, 7, none⟩ (.bool true)).setCell ⟨xq, 3, none⟩ (.map (some wr.heap.size)) = w3 at *
      generalize wr.heap.size = mm at *
      have HMG := Lib.hid hmg
      clear hmg
      have hn1 := node_any HWAY.out HB3.out.size rfl (by simp) a HWA.out (-1, -1)
      go_upto_region 10 with (go_at_call 136; refine hn1.mono ?_; intro e w4 hh; obtain ⟨hh1, kb4, a4, k4, b4⟩ := hh; subst hh1; have A4 := Lib.hid a4; have B4 := Lib.hid (keeps_below k4 HB3.out HB3.out.size (fun k c => by rcases c with c | c | c; (have := HXQ.out; omega); (have h1 := HXQ.out; simp only at c; omega); (have := HMG.out; omega))); have KB4 : Hid (w.heap.size ≤ kb4) := (by { show w.heap.size ≤ kb4; have h1 := HXQ.out; have h2 := HB3.out.size; rcases b4 with b4 | b4; (simp only at b4; omega); omega }); clear a4 k4 b4 hn1)
      have hl4 : (nodeL a (-1, -1) []).length ≤ 100000 := by unfold nodeL; split <;> simp
      have hn2 := node_any A4.out B4.out.size rfl hl4 b HWB.out (-1, -1)
      clear hl4
      go_upto_region 11 with (go_at_call 136; refine hn2.mono ?_; intro e w5 hh; obtain ⟨hh1, kb5, a5, k5, b5⟩ := hh; subst hh1; have A5 := Lib.hid a5; have B5 := Lib.hid (keeps_below k5 B4.out B4.out.size (fun k c => by rcases c with c | c | c; (have := HXQ.out; omega); (have h1 := KB4.out; simp only at c; omega); (have := HMG.out; omega))); have KB5 : Hid (w.heap.size ≤ kb5) := (by { show w.heap.size ≤ kb5; have h1 := KB4.out; have h2 := B4.out.size; rcases b5 with b5 | b5; (simp only at b5; omega); omega }); clear a5 k5 b5 hn2)
      go_wp2
      go_ret
      refine ⟨_, kb5, mm, rfl, ?_, B5.out, HMG.out, KB5.out⟩
      have := A5.out
      simp only [nodeL_two] at this
      exact this
end Go.Proofs.YtdbgfidnccpmdaaGreat

/-
  The walks of package tagwords: each function computes what TagPure says.
-/
namespace Go.Proofs.YtdbgfidnccpmdaaGreat
open Go.RowKit TagPure
set_option linter.unusedVariables false


theorem there_in (s : Int) (w : World) (h0 : 0 ≤ s) (h1 : s < 4) : Calls Tryz.prog 209 #[.int .i64 s] w fun e w' => e = .returned (.bool true) ∧ w = w' := by
  go_enter Tryz.func209, Tryz.ntmps209
  go_wp2
  go_ret
  exact ⟨rfl, rfl⟩
theorem there_out (s : Int) (w : World) (h : s < 0 ∨ 4 ≤ s) : Calls Tryz.prog 209 #[.int .i64 s] w fun e w' => e = .returned (.bool false) ∧ w = w' := by
  by_cases h0 : s < 0
  · go_enter Tryz.func209, Tryz.ntmps209
    go_wp2
    go_ret
    exact ⟨rfl, rfl⟩
  · have h1 : 0 ≤ s := by omega
    have hd : decide (s < 4) = false := by simp; omega
    go_enter Tryz.func209, Tryz.ntmps209
    go_wp2
    go_ret
    exact ⟨rfl, rfl⟩

/-- The four tags as an array. -/
def tags4 (x : Int) : List Value := [.int .i64 (tg x 0), .int .i64 (tg x 1), .int .i64 (tg x 2), .int .i64 (tg x 3)]

theorem part_eq (x : Int) (h0 : 0 ≤ x) (h1 : x < 18446744073709551616) (i : Nat) (d : Int) (hd : d = 256 ^ i) (hp : 1 ≤ d) : wrap64 (bits BinOp.and IntKind.u64 (x / d) 255) = tg x i := by
  subst hd
  have a : 0 ≤ x / 256 ^ i := Int.ediv_nonneg h0 (by omega)
  have b : x / 256 ^ i ≤ x := Int.ediv_le_self _ h0
  rw [and255 _ a (by omega), IntWalk.wrap64_in _ (by omega)]
  rfl

set_option maxHeartbeats 400000 in
theorem parts_any (x : Int) (w : World) (h0 : 0 ≤ x) (h1 : x < 18446744073709551616) :
    Calls Tryz.prog 210 #[.int .u64 x] w fun e w' => e = .returned (.agg (tags4 x).toArray) ∧ Below w.heap.size w w' := by
  go_enter Tryz.func210, Tryz.ntmps210
  go_wp2
  refine wp_loop_rounds 5 ?_
  rw [rounds_succ]; go_wp2
  rw [rounds_succ]; go_wp2
  rw [rounds_succ]; go_wp2
  rw [rounds_succ]; go_wp2
  rw [rounds_succ]; go_wp2
  have e0 : wrap64 (bits BinOp.and IntKind.u64 x 255) = tg x 0 := by have := part_eq x h0 h1 0 1 rfl (by omega); simpa using this
  have e1 := part_eq x h0 h1 1 256 rfl (by omega)
  have e2 := part_eq x h0 h1 2 65536 rfl (by omega)
  have e3 := part_eq x h0 h1 3 16777216 rfl (by omega)
  rw [e0, e1, e2, e3]
  refine bodyPost_ret (v := .agg (tags4 x).toArray) (by simp [results, Tryz.results210, go_sem, tags4]) rfl ⟨rfl, ?_⟩
  exact (Below.refl _ _).alloc (Nat.le_refl _) _

theorem tags_get (x : Int) (n : Nat) (hn : n < 4) (w : World) : (Instr.index 355 (.agg (tags4 x).toArray) (.int .i64 n)).run Tryz.prog w = .ok (.int .i64 (tg x n)) w := by
  rw [run_index_ints (P := Tryz.prog) Tryz.underlying355 Tryz.underlying3 (by kernel_rfl) (tags4 x) rfl .i64 n hn w]
  match n, hn with
  | 0, _ => rfl
  | 1, _ => rfl
  | 2, _ => rfl
  | 3, _ => rfl

theorem tag_in (x s : Int) (w : World) (h0 : 0 ≤ x) (h1 : x < 18446744073709551616) (hs : 0 ≤ s) (hs4 : s < 4) :
    Calls Tryz.prog 143 #[.int .u64 x, .int .i64 s] w fun e w' => e = .returned (.int .i64 (tg x s.toNat)) ∧ Below w.heap.size w w' := by
  obtain ⟨n, rfl⟩ := Int.eq_ofNat_of_zero_le hs
  have hn : n < 4 := by omega
  have hi := tags_get x n hn
  go_enter Tryz.func143, Tryz.ntmps143
  go_wp2_with (first | (go_at_call 209; refine (there_in _ _ (by omega) (by omega)).mono ?_; rintro e w' ⟨rfl, rfl⟩) | (go_at_call 210; refine (parts_any _ _ h0 h1).mono ?_; rintro e w' ⟨rfl, hb⟩))
  go_ret
  exact ⟨rfl, hb⟩
theorem tag_out (x s : Int) (w : World) (h : s < 0 ∨ 4 ≤ s) :
    Calls Tryz.prog 143 #[.int .u64 x, .int .i64 s] w fun e w' => e = .returned (.int .i64 0) ∧ w = w' := by
  go_enter Tryz.func143, Tryz.ntmps143
  go_wp2_with (first | (go_at_call 209; refine (there_out _ _ h).mono ?_; rintro e w' ⟨rfl, rfl⟩))
  go_ret
  exact ⟨rfl, rfl⟩

/-- The tag of a slot, whatever slot. -/
theorem tag_any (x s : Int) (w : World) (h0 : 0 ≤ x) (h1 : x < 18446744073709551616) :
    Calls Tryz.prog 143 #[.int .u64 x, .int .i64 s] w fun e w' => e = .returned (.int .i64 (tagOf x s)) ∧ Below w.heap.size w w' := by
  by_cases h : 0 ≤ s ∧ s < 4
  · unfold tagOf; rw [if_pos h]; exact tag_in x s w h0 h1 h.1 h.2
  · unfold tagOf; rw [if_neg h]; exact (tag_out x s w (by omega)).mono fun e w' ⟨a, b⟩ => ⟨a, b ▸ Below.refl _ _⟩

theorem with_out (x s t : Int) (w : World) (h : (s < 0 ∨ 4 ≤ s) ∨ t < 0 ∨ 255 < t) :
    Calls Tryz.prog 295 #[.int .u64 x, .int .i64 s, .int .i64 t] w fun e w' => e = .returned (.int .u64 x) ∧ w = w' := by
  by_cases hs : s < 0 ∨ 4 ≤ s
  · go_enter Tryz.func295, Tryz.ntmps295
    go_wp2_with (first | (go_at_call 209; refine (there_out _ _ hs).mono ?_; rintro e w' ⟨rfl, rfl⟩))
    go_ret
    exact ⟨rfl, rfl⟩
  · by_cases ht : t < 0
    · go_enter Tryz.func295, Tryz.ntmps295
      go_wp2_with (first | (go_at_call 209; refine (there_in _ _ (by omega) (by omega)).mono ?_; rintro e w' ⟨rfl, rfl⟩))
      go_ret
      exact ⟨rfl, rfl⟩
    · have ht' : 0 ≤ t := by omega
      have ht2 : 255 < t := by omega
      go_enter Tryz.func295, Tryz.ntmps295
      go_wp2_with (first | (go_at_call 209; refine (there_in _ _ (by omega) (by omega)).mono ?_; rintro e w' ⟨rfl, rfl⟩))
      go_ret
      exact ⟨rfl, rfl⟩
set_option maxHeartbeats 800000 in
theorem with_in (x t : Int) (n : Nat) (w : World) (h0 : 0 ≤ x) (h1 : x < 18446744073709551616) (hn : n < 4) (t0 : 0 ≤ t) (t1 : t ≤ 255) :
    Calls Tryz.prog 295 #[.int .u64 x, .int .i64 n, .int .i64 t] w fun e w' => e = .returned (.int .u64 (put x n t)) ∧ Below w.heap.size w w' := by
  match n, hn with
  | 0, _ =>
    go_enter Tryz.func295, Tryz.ntmps295
    go_wp2_with (first | (go_at_call 209; refine (there_in _ _ (by omega) (by omega)).mono ?_; rintro e w' ⟨rfl, rfl⟩))
    go_quiet (fail)
    go_wp2
    go_ret
    exact ⟨ret_u64 (put0 x t h0 h1 t0 t1), below_drewN _ _⟩
  | 1, _ =>
    go_enter Tryz.func295, Tryz.ntmps295
    go_wp2_with (first | (go_at_call 209; refine (there_in _ _ (by omega) (by omega)).mono ?_; rintro e w' ⟨rfl, rfl⟩))
    go_quiet (fail)
    go_wp2
    go_ret
    exact ⟨ret_u64 (put1 x t h0 h1 t0 t1), below_drewN _ _⟩
  | 2, _ =>
    go_enter Tryz.func295, Tryz.ntmps295
    go_wp2_with (first | (go_at_call 209; refine (there_in _ _ (by omega) (by omega)).mono ?_; rintro e w' ⟨rfl, rfl⟩))
    go_quiet (fail)
    go_wp2
    go_ret
    exact ⟨ret_u64 (put2 x t h0 h1 t0 t1), below_drewN _ _⟩
  | 3, _ =>
    go_enter Tryz.func295, Tryz.ntmps295
    go_wp2_with (first | (go_at_call 209; refine (there_in _ _ (by omega) (by omega)).mono ?_; rintro e w' ⟨rfl, rfl⟩))
    go_quiet (fail)
    go_wp2
    go_ret
    exact ⟨ret_u64 (put3 x t h0 h1 t0 t1), below_drewN _ _⟩

/-- The word with a tag at a slot, whatever slot and tag. -/
theorem with_any (x s t : Int) (w : World) (h0 : 0 ≤ x) (h1 : x < 18446744073709551616) :
    Calls Tryz.prog 295 #[.int .u64 x, .int .i64 s, .int .i64 t] w fun e w' => e = .returned (.int .u64 (withOf x s t)) ∧ Below w.heap.size w w' := by
  by_cases h : (0 ≤ s ∧ s < 4) ∧ 0 ≤ t ∧ t ≤ 255
  · unfold withOf; rw [if_pos h]
    have := with_in x t s.toNat w h0 h1 (by omega) h.2.1 h.2.2
    rwa [Int.toNat_of_nonneg h.1.1] at this
  · unfold withOf; rw [if_neg h]; exact (with_out x s t w (by omega)).mono fun e w' ⟨a, b⟩ => ⟨a, b ▸ Below.refl _ _⟩

/-- How many of the first k slots are not free. -/
def cnt (x : Int) : Nat → Nat
  | 0 => 0
  | k + 1 => cnt x k + if tg x k = 0 then 0 else 1
theorem cnt_le (x : Int) (k : Nat) : cnt x k ≤ k := by
  induction k with
  | zero => exact Nat.le_refl _
  | succ k ih => simp only [cnt]; split <;> omega

/-- The lowest free slot from k on (n more), or -1. -/
def freeFrom (x : Int) : Nat → Nat → Int
  | _, 0 => -1
  | k, n + 1 => if tg x k = 0 then k else freeFrom x (k + 1) n

theorem free_any (x : Int) (w : World) (h0 : 0 ≤ x) (h1 : x < 18446744073709551616) :
    Calls Tryz.prog 190 #[.int .u64 x] w fun e w' => e = .returned (.int .i64 (freeFrom x 0 4)) ∧ Below w.heap.size w w' := by
  go_enter Tryz.func190, Tryz.ntmps190
  go_wp2_with (go_at_call 210; refine (parts_any _ _ h0 h1).mono ?_; rintro e w' ⟨rfl, hb⟩)
  go_loop [7] (fun i => ∃ k : Nat, k ≤ 4 ∧ i = .int .i64 k ∧ freeFrom x 0 4 = freeFrom x k (4 - k)) (fun i => 4 - (intOf i).toNat)
  case atStart => exact ⟨0, by omega, rfl, rfl⟩
  case round =>
    obtain ⟨k, hk, rfl, hf⟩ := hrel
    have HF := Lib.hid hf
    clear hf
    by_cases hlt : k < 4
    · have hi := tags_get x k hlt
      obtain ⟨m, hm⟩ : ∃ m, 4 - k = m + 1 := ⟨4 - k - 1, by omega⟩
      by_cases hz : tg x k = 0
      · have hz' : (tg x k == 0) = true := by simp [hz]
        have HC : Hid (freeFrom x 0 4 = k) := by show _ = _; rw [HF.out, hm]; simp [freeFrom, hz]
        clear hz hm
        go_wp2
        go_ret
        exact ⟨ret_i64 HC.out.symm, hb⟩
      · have hz' : (tg x k == 0) = false := by simp [hz]
        have HC : Hid (freeFrom x 0 4 = freeFrom x (k + 1) (4 - (k + 1))) := by show _ = _; rw [HF.out, hm, show 4 - (k + 1) = m from by omega]; simp [freeFrom, hz]
        clear hz hm
        go_wp2
        go_round
        case rel => exact ⟨k + 1, by omega, by go_num, HC.out⟩
        case measure => simp [intOf]; omega
    · obtain rfl : k = 4 := by omega
      go_wp2
      go_ret
      exact ⟨ret_i64 (by rw [HF.out]; rfl), hb⟩

/-- The slots among the first k that have a tag. -/
def has (x t : Int) : Nat → List Nat
  | 0 => []
  | k + 1 => has x t k ++ if tg x k = t then [k] else []
theorem has_le (x t : Int) (k : Nat) : (has x t k).length ≤ k := by
  induction k with
  | zero => exact Nat.le_refl _
  | succ k ih => simp only [has, List.length_append]; split <;> simp <;> omega
/-- Numbers as cells. -/
def cells (l : List Nat) : List Value := l.map fun (n : Nat) => Value.int .i64 n

theorem clip_ints (v : Value) (n base : Nat) (xs : List Value) (w : World) (h : Lst w base v n xs) :
    Calls Tryz.prog 266 #[v] w fun e w' => ∃ v', e = .returned v' ∧ w = w' ∧ Lst w base v' n xs := by
  rcases h with ⟨rfl, rfl, rfl⟩ | ⟨g, off, cap, cur, e, rfl, h2, h3, h4, h5, h6⟩
  · go_enter Tryz.func266, Tryz.ntmps266
    go_wp2
    go_ret
    exact ⟨_, rfl, rfl, .inl ⟨rfl, rfl, rfl⟩⟩
  · unfold maxLen at h5
    go_enter Tryz.func266, Tryz.ntmps266
    go_wp2
    go_ret
    exact ⟨_, rfl, rfl, .inr ⟨g, off, n, cur, e, rfl, h2, h3, Nat.le_refl _, by unfold maxLen; omega, h6⟩⟩
end Go.Proofs.YtdbgfidnccpmdaaGreat

/-
  Hashes, tags, buckets of the program.
-/
namespace Go.Proofs.YtdbgfidnccpmdaaGreat
open Go.RowKit
set_option linter.unusedVariables false

def hstep (s c : Int) : Int := IntKind.u64.wrap (bits .xor .u64 s c * 1099511628211)
theorem hstep_bd (s c : Int) : 0 ≤ hstep s c ∧ hstep s c < 18446744073709551616 := u64_bd _
def hbyte (key : ByteArray) (k : Nat) : Int := if h : k < key.size then (key[k].toNat : Int) else 0
def hfold (key : ByteArray) : Nat → Int
  | 0 => 14695981039346656037
  | k + 1 => hstep (hfold key k) (hbyte key k)
def hashOf (key : ByteArray) : Int := hfold key key.size
theorem hfold_bd (key : ByteArray) (k : Nat) : 0 ≤ hfold key k ∧ hfold key k < 18446744073709551616 := by
  cases k with
  | zero => exact ⟨by show (0 : Int) ≤ 14695981039346656037; decide, by show (14695981039346656037 : Int) < 18446744073709551616; decide⟩
  | succ k => exact hstep_bd _ _
theorem sumadd (p : Nat) (s c : Int) (hc : 0 ≤ c ∧ c < 256) (w : World) (h : w.heap[p]? = some (.cells #[.int .u64 s] 229 (0, 0))) : Calls Tryz.prog 109 #[.pointer (some ⟨p, 0, none⟩), .int .u8 c] w fun e w' => e = .returned (.tuple #[]) ∧ w'.heap[p]? = some (.cells #[.int .u64 (hstep s c)] 229 (0, 0)) ∧ Keeps (· = p) w w' := by
  have c0 := hcell h 0
  have f0 := hfrz h 0
  have k1 : IntKind.u64.wrap c = c := by rw [IntKind.wrap_u64]; omega
  have s1 := setCell_same h 0 (.int .u64 (hstep s c))
  have s2 := setCell_keeps w p 0 (.int .u64 (hstep s c))
  clear h hc
  go_enter Tryz.func109, Tryz.ntmps109
  go_wp2
  go_end0
  exact ⟨rfl, s1, s2⟩
theorem each_any (key : ByteArray) (hk : key.size ≤ 1000000) (p : Nat) (w : World) (h : w.heap[p]? = some (.cells #[.int .u64 14695981039346656037] 229 (0, 0))) : Calls Tryz.prog 108 #[.string key, .func (.func 109) #[.pointer (some ⟨p, 0, none⟩)] #[]] w fun e w' => e = .returned (.tuple #[]) ∧ w'.heap[p]? = some (.cells #[.int .u64 (hashOf key)] 229 (0, 0)) ∧ Keeps (· = p) w w' := by
  go_enter Tryz.func108, Tryz.ntmps108
  go_wp2
  go_loopw [7] (fun i wr => ∃ (k : Nat), k ≤ key.size ∧ i = .int .i64 k ∧ wr.heap[p]? = some (.cells #[.int .u64 (hfold key k)] 229 (0, 0)) ∧ Keeps (· = p) w wr) (fun i _ => key.size - (intOf i).toNat)
  case atStart => exact ⟨0, by omega, rfl, h, below_keeps (Below.refl _ _) _⟩
  case round =>
    obtain ⟨k, hk2, rfl, hz, hK⟩ := hrel
    by_cases hlt : k < key.size
    · have hlt' : (k : Int) < key.size := by omega
      have hby : hbyte key k = (key[k].toNat : Int) := by unfold hbyte; rw [dif_pos hlt]
      have hbb : 0 ≤ (key[k].toNat : Int) ∧ (key[k].toNat : Int) < 256 := by have := UInt8.toNat_lt key[k]; omega
      have hadd := sumadd p (hfold key k) (key[k].toNat : Int) hbb wr hz
      have HB := Lib.hid hby; have HK := Lib.hid hK
      clear hby hbb hz hK h
      go_wp2_with (go_at_call 109; refine hadd.mono ?_; intro e w2 hh; obtain ⟨hh1, h2, k2⟩ := hh; subst hh1; have H2 := Lib.hid h2; have K2 := Lib.hid k2; clear h2 k2 hadd)
      go_roundw
      case rel => exact ⟨k + 1, by omega, by go_num, by show _ = some (Obj.cells #[.int .u64 (hstep (hfold key k) (hbyte key k))] _ _); rw [HB.out]; exact H2.out, HK.out.again K2.out⟩
      case measure => simp [intOf]; omega
    · obtain rfl : k = key.size := by omega
      have HZ := Lib.hid hz; have HK := Lib.hid hK
      clear hz hK h
      go_wp2
      go_end0
      exact ⟨rfl, HZ.out, HK.out⟩
theorem hash_any (key : ByteArray) (hk : key.size ≤ 1000000) (w : World) : Calls Tryz.prog 32 #[.string key] w fun e w' => e = .returned (.int .u64 (hashOf key)) ∧ Below w.heap.size w w' := by
  have hz := heap_alloc_new w (.cells #[.int .u64 14695981039346656037] 229)
  have hb := below_alloc w (.cells #[.int .u64 14695981039346656037] 229)
  have he := each_any key hk w.heap.size _ hz
  have HB := Lib.hid hb
  clear hz hb
  go_enter Tryz.func32, Tryz.ntmps32
  go_wp2_with (go_at_call 108; refine he.mono ?_; intro e w2 hh; obtain ⟨hh1, h2, k2⟩ := hh; subst hh1; have c0 := hcell h2 0; have K2 := Lib.hid k2; clear h2 k2 he)
  go_ret
  exact ⟨rfl, keeps_below K2.out HB.out HB.out.size (fun k e => by omega)⟩
theorem tag_fn (x : Int) (h0 : 0 ≤ x) (h1 : x < 18446744073709551616) (w : World) : Calls Tryz.prog 56 #[.int .u64 x] w fun e w' => e = .returned (.int .i64 (tag01 x)) ∧ w' = w := by
  obtain ⟨q, hq⟩ : ∃ q, q = x / 72057594037927936 := ⟨_, rfl⟩
  have e3 : wrap64 (x / 72057594037927936) = x / 72057594037927936 := IntWalk.wrap64_in _ (by omega)
  by_cases hz : q < 1
  · have ht : Hid (tag01 x = 1) := by show tag01 x = 1; unfold tag01; rw [← hq, if_pos (by omega)]
    have e1 : x / 72057594037927936 < 1 := by omega
    have e2 : decide (x / 72057594037927936 < 1) = true := decide_eq_true e1
    clear hz hq
    go_enter Tryz.func56, Tryz.ntmps56
    go_wp2
    all_goals go_ret
    all_goals exact ⟨ret_i64 (by first | exact ht.out.symm | (rw [ht.out]; omega)), rfl⟩
  · have ht : Hid (tag01 x = x / 72057594037927936) := by show tag01 x = _; unfold tag01; rw [if_neg (by omega)]
    have e1 : ¬ x / 72057594037927936 < 1 := by omega
    have e2 : decide (x / 72057594037927936 < 1) = false := decide_eq_false e1
    clear hq hz
    go_enter Tryz.func56, Tryz.ntmps56
    go_wp2
    all_goals go_ret
    all_goals exact ⟨ret_i64 (by first | exact ht.out.symm | (rw [ht.out]; omega)), rfl⟩
/-- A hash's bucket. -/
def bk (h b : Int) : Int := h % tsize b
theorem tsize_pos {b : Int} (hb : 1 ≤ b ∧ b ≤ 12) : 2 ≤ tsize b ∧ tsize b ≤ 4096 := by
  rcases twelve hb with rfl | rfl | rfl | rfl | rfl | rfl | rfl | rfl | rfl | rfl | rfl | rfl <;> decide
theorem bk_bd (h b : Int) (hb : 1 ≤ b ∧ b ≤ 12) : 0 ≤ bk h b ∧ bk h b < tsize b := by
  have := tsize_pos hb
  unfold bk; exact ⟨Int.emod_nonneg _ (by omega), Int.emod_lt_of_pos _ (by omega)⟩
theorem bucket_fn (x b : Int) (h0 : 0 ≤ x) (h1 : x < 18446744073709551616) (hb : 1 ≤ b ∧ b ≤ 12) (w : World) : Calls Tryz.prog 54 #[.int .u64 x, .int .i64 b] w fun e w' => e = .returned (.int .i64 (bk x b)) ∧ w' = w := by
  have hs := fun w => size_any b w
  have hp := tsize_pos hb
  have hbd := bk_bd x b hb
  have hm : bits .and .u64 x (tsize b - 1) = bk x b := by
    unfold bk; rw [tsize_in hb]
    rcases twelve hb with rfl | rfl | rfl | rfl | rfl | rfl | rfl | rfl | rfl | rfl | rfl | rfl
    all_goals (first
      | exact mask_u64 x 1 1 rfl (by decide) h0 h1 | exact mask_u64 x 3 2 rfl (by decide) h0 h1 | exact mask_u64 x 7 3 rfl (by decide) h0 h1 | exact mask_u64 x 15 4 rfl (by decide) h0 h1 | exact mask_u64 x 31 5 rfl (by decide) h0 h1 | exact mask_u64 x 63 6 rfl (by decide) h0 h1 | exact mask_u64 x 127 7 rfl (by decide) h0 h1 | exact mask_u64 x 255 8 rfl (by decide) h0 h1 | exact mask_u64 x 511 9 rfl (by decide) h0 h1 | exact mask_u64 x 1023 10 rfl (by decide) h0 h1 | exact mask_u64 x 2047 11 rfl (by decide) h0 h1 | exact mask_u64 x 4095 12 rfl (by decide) h0 h1)
  generalize bk x b = B at *
  generalize tsize b = S at *
  have e0 : decide (0 < S) = true := decide_eq_true (by omega)
  obtain ⟨S1, hS1⟩ : ∃ S1, S1 = S - 1 := ⟨_, rfl⟩
  rw [← hS1] at hm
  have e1 : wrap64 (S - 1) = S1 := by rw [hS1]; exact IntWalk.wrap64_in _ (by omega)
  have e2 : IntKind.u64.wrap S1 = S1 := by rw [IntKind.wrap_u64]; omega
  have e3 : wrap64 B = B := IntWalk.wrap64_in _ (by omega)
  clear hS1 hbd hp hb
  go_enter Tryz.func54, Tryz.ntmps54
  go_wp2_with (go_at_call 121; refine (hs _).mono ?_; rintro e w1 ⟨rfl, rfl⟩)
  go_ret
  exact ⟨ret_i64 e3, rfl⟩
theorem bucket_no (x : Int) (w : World) : Calls Tryz.prog 54 #[.int .u64 x, .int .i64 0] w fun e w' => e = .returned (.int .i64 (-1)) ∧ w' = w := by
  have hs := fun w => size_any 0 w
  rw [show tsize 0 = 0 by decide] at hs
  go_enter Tryz.func54, Tryz.ntmps54
  go_wp2_with (go_at_call 121; refine (hs _).mono ?_; rintro e w1 ⟨rfl, rfl⟩)
  go_ret
  exact ⟨rfl, rfl⟩
/-- The other bucket of a tag. -/
def oth (k t b : Int) : Int := bits .xor .i64 k (bits .and .i64 (t * 1540483477) (tsize b - 1))
theorem tag01_bd (x : Int) (h0 : 0 ≤ x) (h1 : x < 18446744073709551616) : 1 ≤ tag01 x ∧ tag01 x ≤ 255 := by
  unfold tag01; split <;> omega
theorem other_fn (k t b : Int) (hb : 1 ≤ b ∧ b ≤ 12) (hk : 0 ≤ k ∧ k < tsize b) (ht : 1 ≤ t ∧ t ≤ 255) (w : World) : Calls Tryz.prog 55 #[.int .i64 k, .int .i64 t, .int .i64 b] w fun e w' => e = .returned (.int .i64 (oth k t b)) ∧ w' = w := by
  have hs := fun w => size_any b w
  have hp := tsize_pos hb
  unfold oth
  generalize tsize b = S at *
  have e0 : decide (k < 0) = false := decide_eq_false (by omega)
  have e1 : decide (S ≤ k) = false := decide_eq_false (by omega)
  have e2 : decide (t < 1) = false := decide_eq_false (by omega)
  have e3 : decide (255 < t) = false := decide_eq_false (by omega)
  obtain ⟨S1, hS1⟩ : ∃ S1, S1 = S - 1 := ⟨_, rfl⟩
  have e4 : wrap64 (S - 1) = S1 := by rw [hS1]; exact IntWalk.wrap64_in _ (by omega)
  obtain ⟨t1, ht1⟩ : ∃ t1, t1 = t * 1540483477 := ⟨_, rfl⟩
  have e5 : wrap64 (t * 1540483477) = t1 := by rw [ht1]; exact IntWalk.wrap64_in _ (by omega)
  rw [← hS1, ← ht1]
  clear hS1 ht1 hp hb hk ht
  go_enter Tryz.func55, Tryz.ntmps55
  go_wp2_with (go_at_call 121; refine (hs _).mono ?_; rintro e w1 ⟨rfl, rfl⟩)
  go_ret
  exact ⟨rfl, rfl⟩
end Go.Proofs.YtdbgfidnccpmdaaGreat

/-
  The hash of a key of whatever length.
-/
namespace Go.Proofs.YtdbgfidnccpmdaaGreat
open Go.RowKit
set_option linter.unusedVariables false

theorem each_big (key : ByteArray) (hk : key.size ≤ maxLen) (p : Nat) (w : World) (h : w.heap[p]? = some (.cells #[.int .u64 14695981039346656037] 229 (0, 0))) : Calls Tryz.prog 108 #[.string key, .func (.func 109) #[.pointer (some ⟨p, 0, none⟩)] #[]] w fun e w' => e = .returned (.tuple #[]) ∧ w'.heap[p]? = some (.cells #[.int .u64 (hashOf key)] 229 (0, 0)) ∧ Keeps (· = p) w w' := by
  have HK0 := Lib.hid hk
  clear hk
  go_enter Tryz.func108, Tryz.ntmps108
  go_wp2
  go_loopw [7] (fun i wr => ∃ (k : Nat), k ≤ key.size ∧ i = .int .i64 k ∧ wr.heap[p]? = some (.cells #[.int .u64 (hfold key k)] 229 (0, 0)) ∧ Keeps (· = p) w wr) (fun i _ => key.size - (intOf i).toNat)
  case atStart => exact ⟨0, by omega, rfl, h, below_keeps (Below.refl _ _) _⟩
  case round =>
    obtain ⟨k, hk2, rfl, hz, hK⟩ := hrel
    by_cases hlt : k < key.size
    · have hlt' : (k : Int) < key.size := by omega
      have hby : hbyte key k = (key[k].toNat : Int) := by unfold hbyte; rw [dif_pos hlt]
      have hbb : 0 ≤ (key[k].toNat : Int) ∧ (key[k].toNat : Int) < 256 := by have := UInt8.toNat_lt key[k]; omega
      have hadd := sumadd p (hfold key k) (key[k].toNat : Int) hbb wr hz
      have HB := Lib.hid hby; have HK := Lib.hid hK
      have e1 : wrap64 ((k : Int) + 1) = ((k + 1 : Nat) : Int) := by have := HK0.out; unfold maxLen at this; rw [IntWalk.wrap64_in _ (by omega)]; omega
      have E1 := Lib.hid e1
      have HLT := Lib.hid hlt
      clear hby hbb hz hK h e1
      go_wp2_with (go_at_call 109; refine hadd.mono ?_; intro e w2 hh; obtain ⟨hh1, h2, k2⟩ := hh; subst hh1; have H2 := Lib.hid h2; have K2 := Lib.hid k2; clear h2 k2 hadd)
      go_roundw
      case rel => exact ⟨k + 1, HLT.out, by rw [E1.out], by show _ = some (Obj.cells #[.int .u64 (hstep (hfold key k) (hbyte key k))] _ _); rw [HB.out]; exact H2.out, HK.out.again K2.out⟩
      case measure => rw [E1.out]; have := HLT.out; simp [intOf]; omega
    · obtain rfl : k = key.size := by omega
      have HZ := Lib.hid hz; have HK := Lib.hid hK
      clear hz hK h
      go_wp2
      go_end0
      exact ⟨rfl, HZ.out, HK.out⟩
theorem hash_big (key : ByteArray) (hk : key.size ≤ maxLen) (w : World) : Calls Tryz.prog 32 #[.string key] w fun e w' => e = .returned (.int .u64 (hashOf key)) ∧ Below w.heap.size w w' := by
  have hz := heap_alloc_new w (.cells #[.int .u64 14695981039346656037] 229)
  have hb := below_alloc w (.cells #[.int .u64 14695981039346656037] 229)
  have he := each_big key hk w.heap.size _ hz
  have HB := Lib.hid hb
  clear hz hb hk
  go_enter Tryz.func32, Tryz.ntmps32
  go_wp2_with (go_at_call 108; refine he.mono ?_; intro e w2 hh; obtain ⟨hh1, h2, k2⟩ := hh; subst hh1; have c0 := hcell h2 0; have K2 := Lib.hid k2; clear h2 k2 he)
  go_ret
  exact ⟨rfl, keeps_below K2.out HB.out HB.out.size (fun k e => by omega)⟩
end Go.Proofs.YtdbgfidnccpmdaaGreat

/-
  A Way: a step.
-/
namespace Go.Proofs.YtdbgfidnccpmdaaGreat
open Go.RowKit Go.Maps TagPure
set_option linter.unusedVariables false

structure WyOk (x : WY) : Prop where
  bits : 1 ≤ x.bits ∧ x.bits ≤ 12
  win : WIn (tsize x.bits).toNat x.l
  ahead : Ahead x.l
  at_ : x.over = false → x.at_ < x.l.length
  way : x.over = false → x.way = []
  wayl : x.way.length ≤ 10000
  made : x.made = true
theorem WyOk.len {x : WY} (h : WyOk x) : x.l.length ≤ 4096 := by
  have h1 := h.win.len
  have h2 := tsize_bdW x.bits
  omega
theorem WyOk.wf {x : WY} (h : WyOk x) : ∀ b ∈ bks x.l, (0 ≤ b ∧ b < tsize x.bits) ∧ (Lit.int .i64 b).wf = true := by
  intro b hb
  have h1 := h.win.rng b hb
  have h2 := tsize_bdW x.bits
  refine ⟨by omega, ?_⟩
  simp only [Lit.wf, IntKind.min, IntKind.max, IntKind.bits, IntKind.signed]; simp; omega
/-- The lowest free slot of a word; the bucket that a slot's tag leads to. -/
def frW (v : Int) : Int := freeFrom v 0 4
def otW (bits v b : Int) (s : Nat) : Int := oth b (tg v s) bits
/-- What a step makes of a Way, the word being v. -/
def WY.next (x : WY) (v : Int) : WY :=
  if frW v = -1 then { x with l := wexp x.most (otW x.bits v) (nd x.l x.at_).1 x.at_ x.l, at_ := x.at_ + 1, over := decide (x.at_ + 1 = (wexp x.most (otW x.bits v) (nd x.l x.at_).1 x.at_ x.l).length) }
  else { x with way := wway x.l x.at_ (frW v), over := true }
def wyA (x : WY) : Int := tagsA x.bits (nd x.l x.at_).1
/-- The first so many slots. -/
def wfirsts (cap : Int) (o : Int → Nat → Int) (b : Int) (k : Nat) (l : List Nd) (n : Nat) : List Nd := (List.range n).foldl (fun l s => wadd cap (o b s) ((k : Int), ((s : Nat) : Int)) l) l
theorem wfirsts_four (cap : Int) (o : Int → Nat → Int) (b : Int) (k : Nat) (l : List Nd) : wfirsts cap o b k l 4 = wexp cap o b k l := rfl
theorem wfirsts_succ (cap : Int) (o : Int → Nat → Int) (b : Int) (k : Nat) (l : List Nd) (n : Nat) : wfirsts cap o b k l (n + 1) = wadd cap (o b n) ((k : Int), ((n : Nat) : Int)) (wfirsts cap o b k l n) := by
  unfold wfirsts; rw [List.range_succ, List.foldl_append]; rfl
theorem wfirsts_len (cap : Int) (o : Int → Nat → Int) (b : Int) (k : Nat) (l : List Nd) (n : Nat) : (wfirsts cap o b k l n).length ≤ l.length + n := by
  induction n with
  | zero => exact Nat.le_refl _
  | succ n ih =>
    rw [wfirsts_succ]
    unfold wadd
    split
    · rw [List.length_append, List.length_singleton]; omega
    · omega
theorem wadd_node (cap b : Int) (f : Int × Int) (l : List Nd) (h : (l.length : Int) < cap) : wadd cap b f l = nodeL b f l := by
  unfold wadd nodeL
  by_cases hb : b ∈ bks l
  · rw [if_neg (fun c => c.2 hb), if_pos hb]
  · rw [if_pos ⟨h, hb⟩, if_neg hb]
theorem free_casesW (x : Int) : freeFrom x 0 4 = -1 ∨ ∃ n : Nat, n < 4 ∧ freeFrom x 0 4 = n ∧ tg x n = 0 := by
  simp only [freeFrom]
  repeat' split
  · exact .inr ⟨0, by omega, rfl, by assumption⟩
  · exact .inr ⟨1, by omega, rfl, by assumption⟩
  · exact .inr ⟨2, by omega, rfl, by assumption⟩
  · exact .inr ⟨3, by omega, rfl, by assumption⟩
  · exact .inl rfl
theorem full_tags (v : Int) (h0 : 0 ≤ v) (h : frW v = -1) : ∀ i, i < 4 → 1 ≤ tg v i ∧ tg v i ≤ 255 := by
  intro i hi
  have hb : 0 ≤ tg v i ∧ tg v i < 256 := by unfold tg; omega
  have key : ∀ n k, freeFrom v k n = -1 → ∀ i, k ≤ i → i < k + n → tg v i ≠ 0 := by
    intro n
    induction n with
    | zero => intro k _ i h1 h2; omega
    | succ n ih =>
      intro k hk i h1 h2
      unfold freeFrom at hk
      split at hk
      · exact absurd hk (by omega)
      · rename_i hne
        by_cases e : i = k
        · rw [e]; exact hne
        · exact ih (k + 1) hk i (by omega) (by omega)
  have := key 4 0 h i (by omega) (by omega)
  omega
theorem xor_ltW (x y : Int) (n : Nat) (hn : n ≤ 12) (hx : 0 ≤ x ∧ x < ((2 ^ n : Nat) : Int)) (hy : 0 ≤ y ∧ y < ((2 ^ n : Nat) : Int)) : 0 ≤ bits .xor .i64 x y ∧ bits .xor .i64 x y < ((2 ^ n : Nat) : Int) := by
  have hp : (2 : Nat) ^ n ≤ 2 ^ 12 := Nat.pow_le_pow_right (by decide) hn
  obtain ⟨a, rfl⟩ := Int.eq_ofNat_of_zero_le hx.1
  obtain ⟨b, rfl⟩ := Int.eq_ofNat_of_zero_le hy.1
  have ha : a < 2 ^ n := by exact_mod_cast hx.2
  have hb : b < 2 ^ n := by exact_mod_cast hy.2
  have key : (BitVec.ofInt 64 (a : Int) ^^^ BitVec.ofInt 64 (b : Int)).toNat = a ^^^ b := by
    rw [BitVec.toNat_xor, BitVec.toNat_ofInt, BitVec.toNat_ofInt]
    congr 1 <;> omega
  have hlt := Nat.xor_lt_two_pow ha hb
  have e : bits .xor .i64 (a : Int) (b : Int) = IntKind.i64.wrap (((BitVec.ofInt 64 (a : Int) ^^^ BitVec.ofInt 64 (b : Int)).toNat : Nat) : Int) := rfl
  rw [e, key, IntKind.wrap_i64]
  omega
theorem tsize_powW {b : Int} (hb : 1 ≤ b ∧ b ≤ 12) : tsize b = ((2 ^ b.toNat : Nat) : Int) := by
  rw [tsize_in hb]
  rcases twelve hb with rfl | rfl | rfl | rfl | rfl | rfl | rfl | rfl | rfl | rfl | rfl | rfl <;> rfl
theorem mask_i64W (x : Int) (m k : Nat) (hm : m = 2 ^ k - 1) (hk : k ≤ 62) (h0 : 0 ≤ x) (h1 : x < 9223372036854775808) : bits .and .i64 x (m : Int) = x % ((2 ^ k : Nat) : Int) := by
  have hp : (2 : Nat) ^ k ≤ 2 ^ 62 := Nat.pow_le_pow_right (by decide) hk
  have hp0 : 0 < (2 : Nat) ^ k := Nat.two_pow_pos k
  have hmm : (BitVec.ofInt 64 (m : Int)).toNat = 2 ^ k - 1 := by
    rw [BitVec.toNat_ofInt]; omega
  have key : (BitVec.ofInt 64 x &&& BitVec.ofInt 64 (m : Int)).toNat = (x % ((2 ^ 64 : Nat) : Int)).toNat % 2 ^ k := by
    rw [BitVec.toNat_and, BitVec.toNat_ofInt, hmm, Nat.and_two_pow_sub_one_eq_mod]
  show IntKind.i64.wrap ((BitVec.ofInt 64 x &&& BitVec.ofInt 64 (m : Int)).toNat : Nat) = _
  rw [key, IntKind.wrap_i64]
  obtain ⟨n, rfl⟩ := Int.eq_ofNat_of_zero_le h0
  have e : ((n : Int) % ((2 ^ 64 : Nat) : Int)).toNat = n := by omega
  rw [e]
  have hlt := Nat.mod_lt n hp0
  rw [← Int.natCast_emod]
  omega
theorem mask_modW (m b : Int) (hm : 0 ≤ m) (hm2 : m < 9223372036854775808) (hb : 1 ≤ b ∧ b ≤ 12) : bits .and .i64 m (tsize b - 1) = m % tsize b := by
  rw [tsize_in hb]
  rcases twelve hb with rfl | rfl | rfl | rfl | rfl | rfl | rfl | rfl | rfl | rfl | rfl | rfl
  all_goals (first
    | exact mask_i64W m 1 1 rfl (by decide) hm hm2 | exact mask_i64W m 3 2 rfl (by decide) hm hm2 | exact mask_i64W m 7 3 rfl (by decide) hm hm2 | exact mask_i64W m 15 4 rfl (by decide) hm hm2 | exact mask_i64W m 31 5 rfl (by decide) hm hm2 | exact mask_i64W m 63 6 rfl (by decide) hm hm2 | exact mask_i64W m 127 7 rfl (by decide) hm hm2 | exact mask_i64W m 255 8 rfl (by decide) hm hm2 | exact mask_i64W m 511 9 rfl (by decide) hm hm2 | exact mask_i64W m 1023 10 rfl (by decide) hm hm2 | exact mask_i64W m 2047 11 rfl (by decide) hm hm2 | exact mask_i64W m 4095 12 rfl (by decide) hm hm2)
theorem oth_bdW (k t b : Int) (hb : 1 ≤ b ∧ b ≤ 12) (hk : 0 ≤ k ∧ k < tsize b) (ht : 1 ≤ t ∧ t ≤ 255) : 0 ≤ oth k t b ∧ oth k t b < tsize b := by
  unfold oth
  rw [mask_modW _ _ (by omega) (by omega) hb]
  have hp := tsize_pos hb
  have h1 := Int.emod_nonneg (t * 1540483477) (b := tsize b) (by omega)
  have h2 := Int.emod_lt_of_pos (t * 1540483477) (show 0 < tsize b by omega)
  rw [tsize_powW hb] at hk h1 h2 ⊢
  exact xor_ltW _ _ _ (by omega) hk ⟨h1, h2⟩
abbrev TLd (xb wb cb : Nat) (bits : Int) (W : World) : Prop := W.cell? ⟨wb, 0, none⟩ = some (.pointer (some ⟨cb, 0, none⟩)) ∧ W.cell? ⟨xb, 0, none⟩ = some (.int .i64 bits)
/-- What holds between two operations of a step. -/
structure WB2 (w0 w : World) (B : WB) (V : WV) (s : CS) (xb m : Nat) (x : WY) : Prop where
  ws : WS w0 w B V s
  way : WayAt w w0.heap.size xb x
  bes : Besd w B V m
section
variable {w0 w w' : World} {B : WB} {V : WV} {s s' : CS} {xb m : Nat} {x : WY}
theorem WB2.below (h : WB2 w0 w B V s xb m x) (hm : x.mo = some m) (hb : Below w.heap.size w w') : WB2 w0 w' B V s xb m x := by
  obtain ⟨es, cl, hmb⟩ := (h.way.mp m hm).2.blk
  have h2 := (h.ws.more hmb h.bes.ne).keep hb
  exact ⟨h.ws.keep hb, h.way.below hb, (h2.fmk (m, es, cl) (by simp)).2, h.bes.fm⟩
theorem WB2.load (h : WB2 w0 w B V s xb m x) (hm : x.mo = some m) (hr : s.room) (a : Int) (ha : (Lit.int .u64 a).wf = true) :
    Calls Tryz.prog 148 #[.pointer (some ⟨B.cb, 0, none⟩), .int .u64 a] w fun e w' => e = .returned (.int .u64 (s.val a)) ∧ WB2 w0 w' B V (s.acc 1 a (s.val a)) xb m x ∧ Fr wTy true w w' := by
  obtain ⟨V2, g1, g2⟩ := way_world h.ws h.way hm h.bes
  refine (g1.load hr a ha).mono fun e w2 hh => ?_
  obtain ⟨h1, h2, h3⟩ := hh
  obtain ⟨k1, k2, k3⟩ := g2 w2 _ h2 h3
  exact ⟨h1, ⟨k1, k2, k3⟩, h3⟩
end
theorem way_cellset {w : World} {lo xb : Nat} {x y : WY} (h : WayAt w lo xb x) (o : Nat) (u : Value) (ho : o ≠ 5) (hy : y.bits = x.bits ∧ y.l = x.l ∧ y.way = x.way ∧ y.kb = x.kb ∧ y.mo = x.mo ∧ y.made = x.made) (hc : ∀ vb vw, (x.cells vb vw).setIfInBounds o u = y.cells vb vw) :
    WayAt (w.setCell ⟨xb, o, none⟩ u) lo xb y ∧ Keeps (· = xb) w (w.setCell ⟨xb, o, none⟩ u) := by
  obtain ⟨h0, ⟨vb, vw, h1, h2, h3, h4⟩, h5, h6, h7⟩ := h
  obtain ⟨e1, e2, e3, e4, e5, e6⟩ := hy
  have sk := setCell_keeps w xb o u
  have g := setCell_same h1 o u
  rw [hc] at g
  refine ⟨⟨h0, ⟨vb, vw, g, ?_, ?_, by rw [e4]; exact h4⟩, ?_, ?_, ?_⟩, sk⟩
  · rw [e2]; exact own_keepsS h2 sk fun k hk c => by
      obtain ⟨cur, hc2⟩ := own_blk h2 hk
      exact cells_ne hc2 h1 (by decide) c
  · rw [e1, e3]; exact own_keepsS h3 sk fun k hk c => by
      obtain ⟨cur, hc2⟩ := own_blk h3 hk
      exact cells_ne hc2 h1 (by decide) c
  · intro m' hm'
    rw [e5] at hm'
    rw [e2]
    refine ⟨(h5 m' hm').1, keeps_mp (h5 m' hm').2 sk fun c => ?_⟩
    obtain ⟨es, cl, hmb⟩ := (h5 m' hm').2.blk
    exact map_ne_cells hmb h1 c
  · rw [e6, e5]; exact h6
  · intro e
    rw [e3] at e
    have := h7 e
    rw [hcell h1] at this
    rw [hcell g]
    exact this
theorem way_seti {w : World} {lo xb : Nat} {x : WY} (h : WayAt w lo xb x) (n : Nat) : WayAt (w.setCell ⟨xb, 4, none⟩ (.int .i64 n)) lo xb { x with at_ := n } ∧ Keeps (· = xb) w (w.setCell ⟨xb, 4, none⟩ (.int .i64 n)) :=
  way_cellset h 4 _ (by decide) ⟨rfl, rfl, rfl, rfl, rfl, rfl⟩ fun _ _ => rfl
theorem way_seto {w : World} {lo xb : Nat} {x : WY} (h : WayAt w lo xb x) (o : Bool) : WayAt (w.setCell ⟨xb, 6, none⟩ (.bool o)) lo xb { x with over := o } ∧ Keeps (· = xb) w (w.setCell ⟨xb, 6, none⟩ (.bool o)) :=
  way_cellset h 6 _ (by decide) ⟨rfl, rfl, rfl, rfl, rfl, rfl⟩ fun _ _ => rfl
theorem WB2.set {w0 w w' : World} {B : WB} {V : WV} {s : CS} {xb m : Nat} {x y : WY} (h : WB2 w0 w B V s xb m x) (hm : x.mo = some m) (hk : Keeps (· = xb) w w') (hy : WayAt w' w0.heap.size xb y) : WB2 w0 w' B V s xb m y := by
  obtain ⟨g1, g2⟩ := way_node h.ws h.way hm h.bes (hk.mono fun k _ e => .inl e)
  exact ⟨g1, hy, g2⟩
theorem w64_smW {x : Int} (h : -4611686018427387904 ≤ x ∧ x ≤ 4611686018427387904) : wrap64 x = x := IntWalk.wrap64_in _ (by omega)
abbrev TLw (xb : Nat) (bits : Int) (at_ : Nat) (W : World) : Prop := W.cell? ⟨xb, 0, none⟩ = some (.int .i64 bits) ∧ W.cell? ⟨xb, 4, none⟩ = some (.int .i64 at_)
theorem WB2.node {w0 w : World} {B : WB} {V : WV} {s : CS} {xb m : Nat} {x : WY} (h : WB2 w0 w B V s xb m x) (hm : x.mo = some m) (hl : x.l.length ≤ 100000) (b f1 f2 : Int) (hb : (Lit.int .i64 b).wf = true) :
    Calls Tryz.prog 136 #[.pointer (some ⟨xb, 0, none⟩), .int .i64 b, .agg #[.int .i64 f1, .int .i64 f2]] w fun e w' => e = .returned (.tuple #[]) ∧ ∃ kb, WB2 w0 w' B V s xb m { x with l := nodeL b (f1, f2) x.l, kb := kb } ∧ Fy xb x.kb w w' ∧ (kb = x.kb ∨ w.heap.size ≤ kb) ∧ TLw xb x.bits x.at_ w' := by
  refine (node_any h.way h.ws.below.size hm hl b hb (f1, f2)).mono ?_
  intro e w' hh
  obtain ⟨hh1, kb, h1, h2, h3⟩ := hh
  obtain ⟨g1, g2⟩ := way_node h.ws h.way hm h.bes h2
  obtain ⟨es, cl, hmb⟩ := (h.way.mp m hm).2.blk
  refine ⟨hh1, kb, ⟨g1, h1, g2⟩, keeps_fy h2 hmb, h3, ?_⟩
  obtain ⟨va, vc, hz, -⟩ := h1.ex
  exact ⟨hcell hz 0, hcell hz 4⟩
set_option maxRecDepth 10000 in
set_option maxHeartbeats 4000000 in
theorem wstep_any {w0 w : World} {B : WB} {V : WV} {s : CS} {xb m : Nat} {x : WY} (h : WS w0 w B V s) (hr : s.room) (hx : WayAt w w0.heap.size xb x) (hm : x.mo = some m) (hb : Besd w B V m) (hk : WyOk x) (hov : x.over = false) :
    Calls Tryz.prog 234 #[.pointer (some ⟨xb, 0, none⟩), .pointer (some ⟨B.wb, 0, none⟩)] w fun e w' => ∃ kb, e = .returned (.bool (x.next (s.val (wyA x))).over) ∧ WS w0 w' B V (s.acc 1 (wyA x) (s.val (wyA x))) ∧ WayAt w' w0.heap.size xb { x.next (s.val (wyA x)) with kb := kb } ∧ Besd w' B V m ∧ Fy xb x.kb w w' ∧ (kb = x.kb ∨ w.heap.size ≤ kb) := by
  have hov0 := wover hx
  rw [hk.made, hov] at hov0
  have hat := hk.at_ hov
  obtain ⟨b, hbb⟩ : ∃ b, b = (nd x.l x.at_).1 := ⟨_, rfl⟩
  have hbm := hk.wf _ (nd_mem hat)
  rw [← hbb] at hbm
  obtain ⟨h0, ⟨vb, vw, h1, h2, h3, h4⟩, h5, h6, h7⟩ := id hx
  obtain ⟨g, cap, hvs, hgc, -⟩ := row1_at h2 x.at_ hat _ (intV_at x.l x.at_ hat)
  rw [← hbb] at hgc
  obtain ⟨c0, c1, c2, c3, c4, c5, c6, c7⟩ := wy_cells h1
  rw [hvs] at c2
  have i0 : (0 : Int) ≤ x.at_ := by omega
  have i1 : (x.at_ : Int) < x.l.length := by omega
  obtain ⟨v, hv⟩ : ∃ v, v = s.val (wyA x) := ⟨_, rfl⟩
  have hvb := wf_bd (h.own.wf (wyA x))
  rw [← hv] at hvb
  have hAw : (Lit.int .u64 (wyA x)).wf = true := tagsA_wf _ _
  have hA : wyA x = tagsA x.bits b := by unfold wyA; rw [hbb]
  have WBx := Lib.hid (WB2.mk h hx hb)
  have HK := Lib.hid hk; have HR := Lib.hid hr; have HM := Lib.hid hm; have HV := Lib.hid hv; have HVB := Lib.hid hvb; have HAW := Lib.hid hAw; have HA := Lib.hid hA; have HBB := Lib.hid hbb; have HBM := Lib.hid hbm; have HAT := Lib.hid hat; have HOV := Lib.hid hov; have HVS := Lib.hid hvs
  rw [← hv]
  clear h hr hx hm hb hk hov h0 h1 h2 h3 h4 h5 h6 h7 hv hvb hAw hA hbb hbm hat hvs
  go_enter Tryz.func234, Tryz.ntmps234
  go_upto_region 2 with (go_at_call 252; refine hov0.mono ?_; intro e w2 hh; obtain ⟨hh1, hh2⟩ := hh; subst hh1; obtain rfl := hh2.symm; clear hov0)
  have y2 := fun st : ExtW w => st.cell c2
  have y4 := fun st : ExtW w => st.cell c4
  have yg := fun st : ExtW w => st.cell hgc
  clear c0 c1 c2 c3 c4 c5 c6 c7 hgc
  refine wp_region_ext (by kernel_rfl) (by kernel_rfl) ?_
  repeat (go_big_quiet_step (fail))
  refine wpQuiet_nil ?_
  rintro W ⟨⟨W2, hW⟩, rfl⟩
  clear y2 y4 yg i0 i1
  have WB3 := Lib.hid (WBx.out.below HM.out hW)
  have F3 := Lib.hid (below_fy hW xb x.kb)
  have BS3 := Lib.hid hW.size
  clear hW
  go_upto_region 3 with (fail)
  obtain ⟨vb3, vw3, hz3, -⟩ := WB3.out.way.ex
  have hs1 : TLd xb B.wb B.cb x.bits W.drew := ⟨WB3.out.ws.c0, hcell hz3 0⟩
  have hTG := fun W => tags_any x.bits b W
  rw [← HA.out] at hTG
  clear hz3
  go_region_held2 (fun W => TLd xb B.wb B.cb x.bits W) (assumption) (first
    | (go_at_call 119; refine (hTG _).mono ?_; intro e w4 hh; obtain ⟨hh1, b4⟩ := hh; subst hh1; have b4' := (Below.refl W.heap.size W).drew.trans b4; have WB4 := Lib.hid (WB3.out.below HM.out b4'); have F4 := Lib.hid (F3.out.trans (below_fy b4' xb x.kb) (.inl rfl)); have s4 : TLd xb B.wb B.cb x.bits w4 := (by { obtain ⟨va, vc, hz, -⟩ := WB4.out.way.ex; exact ⟨WB4.out.ws.c0, hcell hz 0⟩ }); have hld := WB4.out.load HM.out HR.out (wyA x) HAW.out; rw [← HV.out] at hld; clear b4 b4' hs1 WB3 F3)
    | (go_at_call 148; refine hld.mono ?_; intro e w5 hh; obtain ⟨hh1, h5, f5⟩ := hh; subst hh1; have WB5 := Lib.hid h5; have F5 := Lib.hid (F4.out.trans (fr_fy f5 xb x.kb) (.inl rfl)); have s5 : TLd xb B.wb B.cb x.bits w5 := (by { obtain ⟨va, vc, hz, -⟩ := WB5.out.way.ex; exact ⟨WB5.out.ws.c0, hcell hz 0⟩ }); clear h5 f5 hld s4 WB4 F4))
  have hfree := fun W => free_any v W HVB.out.1 HVB.out.2
  have BS5 : Hid (w.heap.size ≤ w5.heap.size) := F5.out.size
  obtain ⟨fv, hfv⟩ : ∃ fv, fv = frW v := ⟨_, rfl⟩
  have hfw : fv = freeFrom v 0 4 := hfv
  rw [← hfw] at hfree
  have HFV := Lib.hid hfv
  have hcases := free_casesW v
  rw [← hfw] at hcases
  clear s5 hfv hfw BS3 hTG
  by_cases hf : fv = -1
  · -- no slot is free
    have hne : (fv != -1) = false := by rw [hf]; rfl
    have HF := Lib.hid hf
    have hfull : ∀ i, i < 4 → 1 ≤ tg v i ∧ tg v i ≤ 255 := full_tags v HVB.out.1 (by rw [← HF.out, HFV.out])
    have HFULL := Lib.hid hfull
    clear hf hcases hfull
    go_wp2_with (go_at_call 190; refine (hfree _).mono ?_; intro e w6 hh; obtain ⟨hh1, b6⟩ := hh; subst hh1; have WB6 := Lib.hid (WB5.out.below HM.out b6); have F6 := Lib.hid (F5.out.trans (below_fy b6 xb x.kb) (.inl rfl)); clear b6 hfree WB5 F5)
    have HO4 : Hid (∀ i, i < 4 → (0 ≤ otW x.bits v b i ∧ otW x.bits v b i < tsize x.bits) ∧ (Lit.int .i64 (otW x.bits v b i)).wf = true) := fun i hi => by
      have h1 := oth_bdW b (tg v i) x.bits HK.out.bits HBM.out.1 (HFULL.out i hi)
      refine ⟨h1, ?_⟩
      have h2 := tsize_bdW x.bits
      rw [show otW x.bits v b i = oth b (tg v i) x.bits from rfl]; simp only [Lit.wf, IntKind.min, IntKind.max, IntKind.bits, IntKind.signed]; simp
      omega
    go_loopw [49] (fun i wr => ∃ (k kb : Nat), k ≤ 4 ∧ i = .int .i64 k ∧ WB2 w0 wr B V (s.acc 1 (wyA x) v) xb m { x with l := wfirsts x.most (otW x.bits v) b x.at_ x.l k, kb := kb } ∧ Fy xb x.kb w wr ∧ (kb = x.kb ∨ w.heap.size ≤ kb)) (fun i _ => 4 - (intOf i).toNat)
    case atStart => exact ⟨0, x.kb, by omega, rfl, WB6.out, F6.out, .inl rfl⟩
    case round =>
      clear WB6 F6
      obtain ⟨k, kb, hk4, rfl, hwb, hfy, hkb⟩ := hrel
      obtain ⟨lk, hlk⟩ : ∃ lk, lk = wfirsts x.most (otW x.bits v) b x.at_ x.l k := ⟨_, rfl⟩
      rw [← hlk] at hwb
      have hll := wfirsts_len x.most (otW x.bits v) b x.at_ x.l k
      rw [← hlk] at hll
      have hl4 := HK.out.len
      obtain ⟨h0, ⟨vb, vw, h1, h2, h3, h4⟩, -⟩ := id hwb.way
      obtain ⟨ab, cb, hvb2, hcb⟩ := own_sl3 h2
      obtain ⟨c0, c1, c2, c3, c4, c5, c6, c7⟩ := wy_cells h1
      rw [hvb2] at c2
      simp only at c0 c1 c2 c3 c4 c5 c6 c7
      have HLK := Lib.hid hlk; have HWB := Lib.hid hwb; have HFY := Lib.hid hfy; have HKB := Lib.hid hkb; have HLL := Lib.hid (show lk.length ≤ 4200 by omega); have H1 := Lib.hid h1; have HVB2 := Lib.hid hvb2
      clear hlk hwb hfy hkb hll hl4 h0 h1 h2 h3 h4 hvb2 c3 c5 c6 c7
      by_cases hlt : k < 4
      · have hlt' : (k : Int) < 4 := by omega
        have HLT := Lib.hid hlt
        obtain ⟨q, hq⟩ : ∃ q, q = decide ((lk.length : Int) < x.most) := ⟨_, rfl⟩
        clear hk4 hlt
        have y1 := fun st : ExtW wr => st.cell c1
        have y2 := fun st : ExtW wr => st.cell c2
        have htg : tagOf v k = tg v k := by unfold tagOf; rw [if_pos (by omega), Int.toNat_natCast]
        have hTG7 := fun W => tag_any v k W HVB.out.1 HVB.out.2
        rw [htg] at hTG7
        have hOT := other_fn b (tg v k) x.bits HK.out.bits HBM.out.1 (HFULL.out k HLT.out)
        have HTG7 := Lib.hid hTG7; have HOT := Lib.hid hOT
        clear htg hTG7 hOT
        have HQ := Lib.hid hq
        have hqd : decide ((lk.length : Int) < x.most) = q := hq.symm
        clear hq
        cases q
        · have hw : wfirsts x.most (otW x.bits v) b x.at_ x.l (k + 1) = wfirsts x.most (otW x.bits v) b x.at_ x.l k := by
            rw [wfirsts_succ]
            unfold wadd
            rw [if_neg]
            intro c
            have := HQ.out
            rw [HLK.out] at this
            exact absurd c.1 (of_decide_eq_false this.symm)
          have HW := Lib.hid hw
          clear hw
          go_upto_region 11 with (fail)
          refine wp_region_ext (by kernel_rfl) (by kernel_rfl) ?_
          repeat (go_big_quiet_step (fail))
          refine wpQuiet_nil ?_
          rintro W ⟨⟨W2, hW⟩, rfl⟩
          clear y1 y2 c0 c1 c2 c4
          have WB7 := Lib.hid (HWB.out.below HM.out hW)
          have F7 := Lib.hid (HFY.out.trans (below_fy hW xb x.kb) (.inl rfl))
          have BW7 := Lib.hid hW.size
          clear hW
          go_wp2_with (fail)
          go_roundw
          case measure => simp [intOf]; have := HLT.out; omega
          case rel =>
            refine ⟨k + 1, kb, by have := HLT.out; omega, by push_cast; rfl, ?_, F7.out, HKB.out⟩
            rw [HW.out, ← HLK.out]
            exact WB7.out
        · have hnl : nodeL (otW x.bits v b k) ((x.at_ : Int), (k : Int)) lk = wfirsts x.most (otW x.bits v) b x.at_ x.l (k + 1) := by
            rw [wfirsts_succ, ← HLK.out, wadd_node]
            exact of_decide_eq_true HQ.out.symm
          have HNL := Lib.hid hnl
          clear hnl
          go_upto_region 11 with (fail)
          refine wp_region_ext (by kernel_rfl) (by kernel_rfl) ?_
          repeat (go_big_quiet_step (fail))
          refine wpQuiet_nil ?_
          rintro W ⟨⟨W2, hW⟩, rfl⟩
          clear y1 y2 c0 c1 c2 c4
          have WB7 := Lib.hid (HWB.out.below HM.out hW)
          have F7 := Lib.hid (HFY.out.trans (below_fy hW xb x.kb) (.inl rfl))
          have BW7 := Lib.hid hW.size
          clear hW
          have hs7 : TLw xb x.bits x.at_ W.drew := (by { obtain ⟨va, vc, hz, -⟩ := WB7.out.way.ex; exact ⟨hcell hz 0, hcell hz 4⟩ })
          go_upto_region 12 with (fail)
          have hTG7 := HTG7.out; have hOT := HOT.out
          have hl8 : lk.length ≤ 100000 := by have := HLL.out; omega
          have hb8 : (Lit.int .i64 (oth b (tg v k) x.bits)).wf = true := (HO4.out k HLT.out).2
          go_region_held2 (fun W => TLw xb x.bits x.at_ W) (assumption) (first
            | (go_at_call 143; refine (hTG7 _).mono ?_; intro e w8 hh; obtain ⟨hh1, b8⟩ := hh; subst hh1; have b8' := (Below.refl W.heap.size W).drew.trans b8; have WB8 := Lib.hid (WB7.out.below HM.out b8'); have F8 := Lib.hid (F7.out.trans (below_fy b8' xb x.kb) (.inl rfl)); have s8 : TLw xb x.bits x.at_ w8 := (by { obtain ⟨va, vc, hz, -⟩ := WB8.out.way.ex; exact ⟨hcell hz 0, hcell hz 4⟩ }); clear b8 b8' hs7 WB7 F7)
            | (go_at_call 55; refine (hOT _).mono ?_; intro e w9 hh; obtain ⟨hh1, hh2⟩ := hh; subst hh1; obtain rfl := hh2.symm)
            | (go_at_call 136; refine (WB2.node WB8.out HM.out hl8 _ _ _ hb8).mono ?_; intro e w9 hh; obtain ⟨hh1, kb2, h9, f9, hkb2, s9⟩ := hh; subst hh1))
          go_wp2_with (fail)
          go_roundw
          case measure => simp [intOf]; have := HLT.out; omega
          case rel =>
            refine ⟨k + 1, kb2, by have := HLT.out; omega, by push_cast; rfl, ?_, ?_, ?_⟩
            · rw [← HNL.out]
              exact h9
            · exact F8.out.trans f9 HKB.out
            · have h1 := F8.out.size
              rcases hkb2 with e | e
              · rw [e]; exact HKB.out
              · exact .inr (Nat.le_trans h1 e)
      · have hk4e : k = 4 := by omega
        subst hk4e
        have HAT1 : Hid (x.at_ < 5000) := by have := HAT.out; have := HK.out.len; show x.at_ < 5000; omega
        have hat1 : wrap64 ((x.at_ : Int) + 1) = ((x.at_ + 1 : Nat) : Int) := by
          have := HAT1.out
          rw [w64_smW (by omega)]; push_cast; rfl
        obtain ⟨a1, ha1⟩ : ∃ a1, a1 = x.at_ + 1 := ⟨_, rfl⟩
        rw [← ha1] at hat1
        have HA1 := Lib.hid ha1
        obtain ⟨g1, g2⟩ := way_seti HWB.out.way a1
        have WB14 := Lib.hid (HWB.out.set HM.out g2 g1)
        have F14 := Lib.hid (HFY.out.trans (keep1_fy (c := x.kb) g2) (.inl rfl))
        have gf := hfrz H1.out 4
        have z14 := setCell_same H1.out 4 (.int .i64 a1)
        have d4 : (wr.setCell ⟨xb, 4, none⟩ (.int .i64 a1)).cell? ⟨xb, 4, none⟩ = some (.int .i64 a1) := hcell z14 4
        have d2 : (wr.setCell ⟨xb, 4, none⟩ (.int .i64 a1)).cell? ⟨xb, 2, none⟩ = some (.slice ab lk.length cb) := by
          have hv : vb = .slice ab lk.length cb := HVB2.out
          rw [← hv]
          exact hcell z14 2
        have Z14 := Lib.hid z14
        clear g1 g2 ha1 z14 hk4
        go_upto_region 15 with (fail)
        obtain ⟨w14, hw14⟩ : ∃ w14, w14 = wr.setCell ⟨xb, 4, none⟩ (.int .i64 a1) := ⟨_, rfl⟩
        rw [← hw14] at d4 d2 ⊢
        have WB15 := WB14.out; have F15 := F14.out; have Z15 := Z14.out
        rw [← hw14] at WB15 F15 Z15
        have WB16 := Lib.hid WB15; have F16 := Lib.hid F15; have Z16 := Lib.hid Z15
        have ZE := Lib.hid hw14
        clear WB14 F14 Z14 WB15 F15 Z15 gf hw14 c0 c1 c2 c4
        have y4 := fun st : ExtW w14 => st.cell d4
        have y2 := fun st : ExtW w14 => st.cell d2
        refine wp_region_ext_tail 13 (by kernel_rfl) (by kernel_rfl) ?_
        simp only [List.take_succ_cons, List.take_zero, List.drop_succ_cons, List.drop_zero]
        repeat (go_big_quiet_step (fail))
        refine wpQuiet_nil ?_
        rintro W ⟨⟨W2, hW⟩, rfl⟩
        clear y2 y4 d2 d4
        have g1 := (hW.block _ (Array.getElem?_eq_some_iff.1 Z16.out).1).trans Z16.out
        have gf := hfrz g1 6
        have g6 : W.cell? ⟨xb, 6, none⟩ = some (.bool x.over) := hcell g1 6
        have WB17 := WB16.out.below HM.out hW
        have F17 := F16.out.trans (below_fy hW xb x.kb) (.inl rfl)
        obtain ⟨q, hq⟩ : ∃ q, q = ((a1 : Int) == (lk.length : Int)) := ⟨_, rfl⟩
        have HQ := Lib.hid hq
        obtain ⟨s1, s2⟩ := way_seto WB17.way q
        have WB18 := WB17.set HM.out s2 s1
        have F18 := Lib.hid (F17.trans (keep1_fy (c := x.kb) s2) (.inl rfl))
        have hov1 := wover s1
        simp only at hov1
        rw [HK.out.made] at hov1
        have WB19 := Lib.hid WB18
        have BW2 := Lib.hid hW
        clear g1 s1 s2 WB17 WB18 F17 hW
        go_upto_region 16 with (fail)
        rw [← hq]
        clear hq
        go_wp2_with (go_at_call 252; refine hov1.mono ?_; intro e w2 hh; obtain ⟨hh1, hh2⟩ := hh; subst hh1; obtain rfl := hh2.symm; clear hov1)
        go_ret
        have hq2 : decide (x.at_ + 1 = lk.length) = q := by
          rw [HQ.out, HA1.out]
          by_cases e : x.at_ + 1 = lk.length
          · rw [decide_eq_true e, e]; simp
          · rw [decide_eq_false e]; symm; rw [beq_eq_false_iff_ne]; omega
        have hnx : x.next v = { x with l := lk, at_ := a1, over := q } := by
          unfold WY.next
          rw [if_pos (by rw [← HFV.out]; exact HF.out), ← HBB.out, ← wfirsts_four, ← HLK.out, hq2, ← HA1.out]
        refine ⟨kb, ?_⟩
        rw [hnx]
        exact ⟨by cases q <;> rfl, WB19.out.ws, WB19.out.way, WB19.out.bes, F18.out, HKB.out⟩
  · -- a slot is free
    obtain ⟨n, hn4, hfn, htn⟩ := hcases.resolve_left hf
    have hne : (fv != -1) = true := bne_iff_ne.2 hf
    have HF := Lib.hid hf; have HFN := Lib.hid hfn
    clear hf hcases hfn hn4 htn
    go_upto_region 6 with (go_at_call 190; refine (hfree _).mono ?_; intro e w6 hh; obtain ⟨hh1, b6⟩ := hh; subst hh1; have WB6 := Lib.hid (WB5.out.below HM.out b6); have F6 := Lib.hid (F5.out.trans (below_fy b6 xb x.kb) (.inl rfl)); clear b6 hfree WB5 F5)
    have hfd := found_any (s := fv) WB6.out.way WB6.out.ws.below.size HM.out (by have := HK.out.len; omega) HK.out.ahead HK.out.win.nodup (fun b hb => (HK.out.wf b hb).2) HAT.out (HK.out.way HOV.out)
    obtain ⟨vb, vw, z6, -⟩ := WB6.out.way.ex
    have c4 : w6.cell? ⟨xb, 4, none⟩ = some (.int .i64 x.at_) := hcell z6 4
    clear z6
    go_wp2_with (go_at_call 253; refine hfd.mono ?_; intro e w7 hh; obtain ⟨hh1, h7, k7⟩ := hh; subst hh1; have WB7 := Lib.hid (WB6.out.set HM.out k7 h7); have F7 := Lib.hid (F6.out.trans (keep1_fy (c := x.kb) k7) (.inl rfl)); clear h7 k7 hfd WB6 F6)
    go_ret
    have hnx : x.next v = { x with way := wway x.l x.at_ fv, over := true } := by
      unfold WY.next
      rw [if_neg (by rw [← HFV.out]; exact HF.out), ← HFV.out]
    refine ⟨x.kb, ?_⟩
    rw [hnx]
    exact ⟨rfl, WB7.out.ws, WB7.out.way, WB7.out.bes, F7.out, .inl rfl⟩
end Go.Proofs.YtdbgfidnccpmdaaGreat

/-
  A Way: a run by itself.
-/
namespace Go.Proofs.YtdbgfidnccpmdaaGreat
open Go.RowKit Go.Maps TagPure
set_option linter.unusedVariables false

/-- A table of tags: where each slot leads to; the lowest free slot of a bucket. -/
def tabO (bits : Int) (tab : Int → Int) (b : Int) (s : Nat) : Int := otW bits (tab b) b s
def tabF (tab : Int → Int) (b : Int) : Int := frW (tab b)
theorem oth_bd0 (k t b : Int) (hb : 1 ≤ b ∧ b ≤ 12) (hk : 0 ≤ k ∧ k < tsize b) (ht : 0 ≤ t ∧ t ≤ 255) : 0 ≤ oth k t b ∧ oth k t b < tsize b := by
  unfold oth
  rw [mask_modW _ _ (by omega) (by omega) hb]
  have hp := tsize_pos hb
  have h1 := Int.emod_nonneg (t * 1540483477) (b := tsize b) (by omega)
  have h2 := Int.emod_lt_of_pos (t * 1540483477) (show 0 < tsize b by omega)
  rw [tsize_powW hb] at hk h1 h2 ⊢
  exact xor_ltW _ _ _ (by omega) hk ⟨h1, h2⟩
theorem tab_ok (bits : Int) (hb : 1 ≤ bits ∧ bits ≤ 12) (tab : Int → Int) : Tab (tsize bits).toNat (tabO bits tab) := by
  have hp := tsize_pos hb
  refine ⟨fun b s h0 h1 _ => ?_⟩
  have ht : 0 ≤ tg (tab b) s ∧ tg (tab b) s ≤ 255 := by unfold tg; omega
  have := oth_bd0 b (tg (tab b) s) bits hb ⟨h0, by omega⟩ ht
  unfold tabO otW
  omega
theorem wexp_congr (cap : Int) (o o' : Int → Nat → Int) (b : Int) (k : Nat) (l : List Nd) (h : ∀ s, o b s = o' b s) : wexp cap o b k l = wexp cap o' b k l := by
  unfold wexp
  simp only [List.foldl_cons, List.foldl_nil]
  rw [h 0, h 1, h 2, h 3]
theorem frW_nn (v : Int) : frW v = -1 ∨ 0 ≤ frW v := by
  rcases free_casesW v with h | ⟨n, _, h, _⟩
  · exact .inl h
  · exact .inr (by unfold frW; rw [h]; omega)
theorem wexp_len_le (cap : Int) (o : Int → Nat → Int) (b : Int) (k : Nat) (l : List Nd) : l.length ≤ (wexp cap o b k l).length := (wexp_pre cap o b k l).length_le
section
variable {x : WY} {tab : Int → Int}
theorem WY.next_no (h : frW (tab (nd x.l x.at_).1) = -1) : x.next (tab (nd x.l x.at_).1) = { x with l := wexp x.most (tabO x.bits tab) (nd x.l x.at_).1 x.at_ x.l, at_ := x.at_ + 1, over := decide (x.at_ + 1 = (wexp x.most (tabO x.bits tab) (nd x.l x.at_).1 x.at_ x.l).length) } := by
  unfold WY.next
  rw [if_pos h, wexp_congr x.most (otW x.bits (tab (nd x.l x.at_).1)) (tabO x.bits tab) _ _ _ (fun s => rfl)]
theorem WY.next_yes (h : 0 ≤ frW (tab (nd x.l x.at_).1)) : x.next (tab (nd x.l x.at_).1) = { x with way := wway x.l x.at_ (tabF tab (nd x.l x.at_).1), over := true } := by
  unfold WY.next
  rw [if_neg (by omega)]; rfl
theorem WyOk.next (h : WyOk x) (ho : x.over = false) : WyOk (x.next (tab (nd x.l x.at_).1)) := by
  have hat := h.at_ ho
  have hl := h.len
  rcases frW_nn (tab (nd x.l x.at_).1) with hf | hf
  · rw [WY.next_no hf]
    have hb := h.win.rng _ (nd_mem hat)
    have hle := wexp_len_le x.most (tabO x.bits tab) (nd x.l x.at_).1 x.at_ x.l
    refine ⟨h.bits, h.win.exp (tab_ok x.bits h.bits tab) hb, ahead_exp _ _ _ _ h.ahead hat, fun c => ?_, fun _ => h.way ho, h.wayl, h.made⟩
    have := of_decide_eq_false c
    simp only at this ⊢
    omega
  · rw [WY.next_yes hf]
    refine ⟨h.bits, h.win, h.ahead, fun c => (by cases c), fun c => (by cases c), ?_, h.made⟩
    simp only [wway, List.length_reverse]
    have := wpath_len x.l x.l.length x.at_ (tabF tab (nd x.l x.at_).1)
    omega
/-- What a run comes to. -/
def wres (x : WY) (tab : Int → Int) (m : Nat) : Nat × List Nd × List (Int × Int) × Bool :=
  if x.over = true then (0, x.l, x.way, true) else wrun x.most (tabO x.bits tab) (tabF tab) m x.at_ x.l
theorem wres_over (h : x.over = true) (m : Nat) : wres x tab m = (0, x.l, x.way, true) := if_pos h
theorem wres_zero (h : WyOk x) (ho : x.over = false) : wres x tab 0 = (0, x.l, x.way, false) := by
  unfold wres
  rw [if_neg (by rw [ho]; decide)]
  unfold wrun
  rw [decide_eq_false (by have := h.at_ ho; omega), h.way ho]
theorem wres_succ (h : WyOk x) (ho : x.over = false) (m : Nat) : wres x tab (m + 1) = ((wres (x.next (tab (nd x.l x.at_).1)) tab m).1 + 1, (wres (x.next (tab (nd x.l x.at_).1)) tab m).2) := by
  have hat := h.at_ ho
  conv => lhs; unfold wres
  rw [if_neg (by rw [ho]; decide)]
  unfold wrun
  rw [if_neg (by omega)]
  rcases frW_nn (tab (nd x.l x.at_).1) with hf | hf
  · rw [if_neg (by unfold tabF; omega), WY.next_no hf]
    have hle := wexp_len_le x.most (tabO x.bits tab) (nd x.l x.at_).1 x.at_ x.l
    unfold wres
    by_cases e : x.at_ + 1 = (wexp x.most (tabO x.bits tab) (nd x.l x.at_).1 x.at_ x.l).length
    · rw [if_pos (by simp only [decide_eq_true e])]
      have hw : wrun x.most (tabO x.bits tab) (tabF tab) m (x.at_ + 1) (wexp x.most (tabO x.bits tab) (nd x.l x.at_).1 x.at_ x.l) = (0, wexp x.most (tabO x.bits tab) (nd x.l x.at_).1 x.at_ x.l, [], true) := by
        cases m with
        | zero => unfold wrun; rw [decide_eq_true (by omega)]
        | succ m => unfold wrun; rw [if_pos (by omega)]
      rw [hw, h.way ho]
    · rw [if_neg (by simp only [decide_eq_false e]; decide)]
  · rw [if_pos (by unfold tabF; exact hf), WY.next_yes hf]
    unfold wres
    rw [if_pos rfl]
end
theorem next_mo (x : WY) (v : Int) : (x.next v).mo = x.mo ∧ (x.next v).bits = x.bits ∧ (x.next v).most = x.most ∧ (x.next v).kb = x.kb := by
  unfold WY.next; split <;> exact ⟨rfl, rfl, rfl, rfl⟩
theorem upd_selfW (f : Int → Int) (a : Int) : upd f a (f a) = f := by
  funext z; unfold upd; split
  · rename_i h; rw [h]
  · rfl
/-- The words of a table are those of the world. -/
def TabOf (bits : Int) (tab : Int → Int) (s : CS) : Prop := ∀ b, 0 ≤ b → b < tsize bits → s.val (tagsA bits b) = tab b
set_option maxRecDepth 10000 in
set_option maxHeartbeats 4000000 in
theorem wayrun {w0 w : World} {B : WB} {V : WV} {s : CS} {xb mb : Nat} {x : WY} {tab : Int → Int} (m : Nat) (hm : m ≤ 1000) (c : Nat) (hc : s.n ≤ c ∧ s.cnt ≤ c) (hcl : c + 1000 < lim) (h : WS w0 w B V s) (hx : WayAt w w0.heap.size xb x) (hmo : x.mo = some mb) (hbs : Besd w B V mb) (hk : WyOk x) (ht : TabOf x.bits tab s) :
    Calls Tryz.prog 36 #[.pointer (some ⟨B.wb, 0, none⟩), .iface 139 (.pointer (some ⟨xb, 0, none⟩)), .int .i64 m] w fun e w' => e = .returned (.int .i64 ((wres x tab m).1 : Nat)) ∧ ∃ (x' : WY) (s' : CS), WS w0 w' B V s' ∧ WayAt w' w0.heap.size xb x' ∧ Besd w' B V mb ∧ WyOk x' ∧ x'.mo = some mb ∧ x'.bits = x.bits ∧ x'.l = (wres x tab m).2.1 ∧ x'.way = (wres x tab m).2.2.1 ∧ x'.over = (wres x tab m).2.2.2 ∧ s'.val = s.val ∧ s'.cnt = s.cnt + (wres x tab m).1 ∧ s'.n = s.n + (wres x tab m).1 ∧ Fy xb x.kb w w' := by
  have H := Lib.hid h; have HX := Lib.hid hx; have HO := Lib.hid hk; have HC := Lib.hid hc; have HCL := Lib.hid hcl; have HMO := Lib.hid hmo; have HB := Lib.hid hbs; have HT := Lib.hid ht
  have F0 := Lib.hid (below_fy (Below.refl w.heap.size w) xb x.kb)
  clear h hx hk hc hcl hmo hbs ht
  obtain ⟨R, hR⟩ : ∃ R, R = wres x tab m := ⟨_, rfl⟩
  rw [← hR]
  have HR := Lib.hid hR
  clear hR
  go_enter Tryz.func36, Tryz.ntmps36
  go_wp2
  go_loopw [7] (fun i wr => ∃ (k : Nat) (s' : CS) (x' : WY), k ≤ m ∧ i = .int .i64 k ∧ WS w0 wr B V s' ∧ WayAt wr w0.heap.size xb x' ∧ Besd wr B V mb ∧ WyOk x' ∧ x'.mo = some mb ∧ x'.bits = x.bits ∧ s'.val = s.val ∧ s'.cnt = s.cnt + k ∧ s'.n = s.n + k ∧ Fy xb x.kb w wr ∧ (x'.kb = x.kb ∨ w.heap.size ≤ x'.kb) ∧ R = ((wres x' tab (m - k)).1 + k, (wres x' tab (m - k)).2)) (fun i _ => m - (intOf i).toNat)
  case atStart => exact ⟨0, s, x, by omega, rfl, H.out, HX.out, HB.out, HO.out, HMO.out, rfl, rfl, rfl, rfl, F0.out, .inl rfl, HR.out⟩
  case round =>
    clear H HX HO HR HB F0 HMO
    obtain ⟨k, s', x', hk, rfl, h, hx, hb, ho, hmo, hbt, hv, hcn, hn, hf, hkb, hR⟩ := hrel
    have hov := wover hx
    rw [ho.made, show (!true || x'.over) = x'.over from by cases x'.over <;> rfl] at hov
    by_cases hlt : k < m
    · have hlt' : (k : Int) < m := by omega
      by_cases hoff : x'.over = true
      · rw [hoff] at hov
        rw [wres_over hoff] at hR
        have P := Lib.hid (And.intro h (And.intro hx (And.intro hb (And.intro ho (And.intro hmo (And.intro hbt (And.intro hv (And.intro hcn (And.intro hn hf)))))))))
        have HR := Lib.hid hR; have HOFF := Lib.hid hoff
        clear h hx hb ho hmo hbt hv hcn hn hf hkb hR hoff
        go_wp2_with (go_at_call 252; refine hov.mono ?_; intro e w2 hh; obtain ⟨hh1, hh2⟩ := hh; subst hh1; obtain rfl := hh2.symm; clear hov)
        go_ret
        rw [HR.out]
        obtain ⟨p1, p2, p3, p4, p5, p6, p7, p8, p9, p10⟩ := P.out
        exact ⟨by simp, x', s', p1, p2, p3, p4, p5, p6, rfl, rfl, HOFF.out, p7, by simp only; omega, by simp only; omega, p10⟩
      · have hoff : x'.over = false := by simpa using hoff
        rw [hoff] at hov
        have hat := ho.at_ hoff
        have hin := ho.win.rng _ (nd_mem hat)
        have hvx : s'.val (wyA x') = tab (nd x'.l x'.at_).1 := by
          unfold wyA
          rw [hv, hbt]
          have h1 := tsize_bdW x.bits
          rw [hbt] at hin
          exact HT.out _ hin.1 (by omega)
        have hst := wstep_any h (CS.room_of (c + k) (by have := HC.out; omega) (by have := HCL.out; omega)) hx hmo hb ho hoff
        rw [hvx] at hst
        obtain ⟨q, hq⟩ : ∃ q, q = m - (k + 1) := ⟨_, rfl⟩
        rw [show m - k = q + 1 by omega, wres_succ ho hoff] at hR
        have ho2 := ho.next (tab := tab) hoff
        obtain ⟨n1, n2, n3, n4⟩ := next_mo x' (tab (nd x'.l x'.at_).1)
        have hR2 : R = ((wres (x'.next (tab (nd x'.l x'.at_).1)) tab (m - (k + 1))).1 + (k + 1), (wres (x'.next (tab (nd x'.l x'.at_).1)) tab (m - (k + 1))).2) := by
          rw [hR, ← hq, Prod.mk.injEq]; exact ⟨by simp only; omega, rfl⟩
        have hv2 : (s'.acc 1 (wyA x') (tab (nd x'.l x'.at_).1)).val = s.val := by
          show upd s'.val (wyA x') _ = _
          rw [← hvx, upd_selfW, hv]
        have hkb0 := hx.lt
        generalize hy : x'.next (tab (nd x'.l x'.at_).1) = y at *
        generalize hs2 : s'.acc 1 (wyA x') (tab (nd x'.l x'.at_).1) = s2 at *
        have hcn2 : s2.cnt = s.cnt + (k + 1) ∧ s2.n = s.n + (k + 1) := by rw [← hs2]; show s'.cnt + 1 = _ ∧ s'.n + 1 = _; omega
        have Q := Lib.hid (And.intro ho2 (And.intro (n1.trans hmo) (And.intro (n2.trans hbt) (And.intro hv2 (And.intro hcn2 hR2)))))
        have HF := Lib.hid hf; have HKB := Lib.hid hkb
        have HLT := Lib.hid hlt
        clear h hx hb ho hmo hbt hv hcn hn hf hkb hR hq ho2 n1 n2 n3 n4 hR2 hv2 hkb0 hcn2 hat hin hvx hy hs2
        generalize y.over = yo at hst
        go_wp2_with (first
          | (go_at_call 252; refine hov.mono ?_; intro e w2 hh; obtain ⟨hh1, hh2⟩ := hh; subst hh1; obtain rfl := hh2.symm; clear hov)
          | (go_at_call 234; refine hst.mono ?_; intro e w3 hh; obtain ⟨kb, hh1, g⟩ := hh; subst hh1; have P := Lib.hid g; clear g hst))
        go_roundw
        case rel =>
          obtain ⟨p1, p2, p3, p4, p5⟩ := P.out
          obtain ⟨q1, q2, q3, q4, q5, q6⟩ := Q.out
          refine ⟨k + 1, _, { y with kb := kb }, HLT.out, by go_num, p1, p2, p3, ⟨q1.bits, q1.win, q1.ahead, q1.at_, q1.way, q1.wayl, q1.made⟩, q2, q3, q4, q5.1, q5.2, HF.out.trans p4 HKB.out, ?_, q6⟩
          have h1 := HF.out.size
          rcases p5 with e | e
          · show kb = x.kb ∨ _
            rw [e]; exact HKB.out
          · exact .inr (Nat.le_trans h1 e)
        case measure => have := HLT.out; simp [intOf]; omega
    · obtain rfl : k = m := by omega
      rw [Nat.sub_self] at hR
      have P := Lib.hid (And.intro h (And.intro hx (And.intro hb (And.intro ho (And.intro hmo (And.intro hbt (And.intro hv (And.intro hcn (And.intro hn hf)))))))))
      have HR := Lib.hid hR
      clear h hx hb ho hmo hbt hv hcn hn hf hkb hR hov
      go_wp2
      go_ret
      rw [HR.out]
      obtain ⟨p1, p2, p3, p4, p5, p6, p7, p8, p9, p10⟩ := P.out
      have e : wres x' tab 0 = (0, x'.l, x'.way, x'.over) := by
        by_cases e : x'.over = true
        · rw [wres_over e, e]
        · have e : x'.over = false := by simpa using e
          rw [wres_zero p4 e, e]
      rw [e]
      exact ⟨by simp, x', s', p1, p2, p3, p4, p5, p6, rfl, rfl, rfl, p7, by simp only; omega, by simp only; omega, p10⟩
end Go.Proofs.YtdbgfidnccpmdaaGreat

/-
  Places of a hash: the program's.
-/
namespace Go.Proofs.YtdbgfidnccpmdaaGreat
open Go.RowKit
set_option linter.unusedVariables false

/-- Each once. -/
def dedup (l : List (Int × Int)) : List (Int × Int) := l.foldl (fun out p => if p ∈ out then out else out ++ [p]) []
theorem dedup_take {l : List (Int × Int)} {k : Nat} (h : k < l.length) : dedup (l.take (k + 1)) = if l[k] ∈ dedup (l.take k) then dedup (l.take k) else dedup (l.take k) ++ [l[k]] := by
  unfold dedup; rw [List.take_add_one, List.getElem?_eq_getElem h, List.foldl_append]; rfl
theorem dedup_len (l : List (Int × Int)) : (dedup l).length ≤ l.length := by
  have key : ∀ (l o : List (Int × Int)), (l.foldl (fun out p => if p ∈ out then out else out ++ [p]) o).length ≤ o.length + l.length := by
    intro l
    induction l with
    | nil => intro o; simp
    | cons p l ih =>
      intro o
      rw [List.foldl_cons]
      split
      · have := ih o; simp only [List.length_cons]; omega
      · have := ih (o ++ [p]); simp only [List.length_cons, List.length_append, List.length_nil] at this ⊢; omega
  have := key l []
  unfold dedup; simp only [List.length_nil, Nat.zero_add] at this; exact this
theorem info_plcf : (Tryz.prog.info? 41).map (fun i => (i.zero, i.size, i.bytes)) = some (some (.agg #[.int .i64 0, .int .i64 0]), 2, 16) := by kernel_rfl
theorem eql_place (a b x y : Int) (W : World) : (binOp .eql 41 (.agg #[.int .i64 a, .int .i64 b]) (.agg #[.int .i64 x, .int .i64 y])).run Tryz.prog W = .ok (.bool (a == x && b == y)) W := by
  cases h1 : a == x <;> cases h2 : b == y <;> go_simp
theorem neq_place (a b x y : Int) (W : World) : (binOp .neq 41 (.agg #[.int .i64 a, .int .i64 b]) (.agg #[.int .i64 x, .int .i64 y])).run Tryz.prog W = .ok (.bool (!(a == x && b == y))) W := by
  cases h1 : a == x <;> cases h2 : b == y <;> go_simp
theorem once1 (a b x y : Int) (pb : Nat) (w : World) (h : w.heap[pb]? = some (.cells #[.int .i64 x, .int .i64 y] 41 (0, 0))) : Calls Tryz.prog 180 #[.agg #[.int .i64 a, .int .i64 b], .pointer (some ⟨pb, 0, none⟩)] w fun e w' => e = .returned (.bool (a == x && b == y)) ∧ Below w.heap.size w w' := by
  have hb := below_alloc w (.cells #[.int .i64 a, .int .i64 b] 41)
  have hz := heap_alloc_new w (.cells #[.int .i64 a, .int .i64 b] 41)
  have h2 := (hb.block _ (Array.getElem?_eq_some_iff.1 h).1).trans h
  have c0 := hcell hz 0
  have c1 := hcell hz 1
  have d0 := hcell h2 0
  have d1 := hcell h2 1
  have he := fun W => eql_place a b x y W
  have HB := Lib.hid hb
  clear h h2 hz hb
  go_enter Tryz.func180, Tryz.ntmps180
  go_upto_region 1 with (fail)
  change Code.wp _ _ _ _ (w.alloc (.cells #[.int .i64 a, .int .i64 b] 41))
  generalize w.alloc (.cells #[.int .i64 a, .int .i64 b] 41) = w1 at *
  go_wp2
  go_ret
  exact ⟨rfl, HB.out⟩
set_option maxHeartbeats 1000000 in
theorem index_places (l : List (Int × Int)) (ao : Option Addr) (cap : Nat) (x y : Int) (pb : Nat) (w : World) (hl : Plc w ao cap l) (h : w.heap[pb]? = some (.cells #[.int .i64 x, .int .i64 y] 41 (0, 0))) :
    Calls Tryz.prog 232 #[.slice ao l.length cap, .func (.func 180) #[] #[.pointer (some ⟨pb, 0, none⟩)]] w fun e w' => (∃ i, e = .returned (.int .i64 i) ∧ decide (0 ≤ i) = decide ((x, y) ∈ l)) ∧ Below w.heap.size w w' := by
  have hml : l.length ≤ maxLen := Nat.le_trans hl.le hl.most
  unfold maxLen at hml
  have HL := Lib.hid hl; have HP := Lib.hid h
  clear hl h
  go_enter Tryz.func232, Tryz.ntmps232
  go_wp2
  go_loopw [8] (fun i wr => ∃ (k : Nat), k ≤ l.length ∧ i = .int .i64 k ∧ Below w.heap.size w wr ∧ (x, y) ∉ l.take k) (fun i _ => l.length - (intOf i).toNat)
  case atStart => exact ⟨0, by omega, rfl, Below.refl _ _, by simp⟩
  case round =>
    obtain ⟨k, hk, rfl, hB, hno⟩ := hrel
    by_cases hlt : k < l.length
    · have hlt' : (k : Int) < l.length := by omega
      obtain ⟨b, off, a0, b0, rfl, hlk, g0, g1⟩ := (HL.out.below hB).at k hlt
      have hlk' : l[k] = (a0, b0) := by rw [List.getElem?_eq_getElem hlt] at hlk; exact Option.some.inj hlk
      clear hlk
      have hz := (hB.block _ (Array.getElem?_eq_some_iff.1 HP.out).1).trans HP.out
      have ho := once1 a0 b0 x y pb wr hz
      have hstep : (x, y) ∈ l.take (k + 1) ↔ ((x, y) ∈ l.take k ∨ (x, y) = l[k]) := by
        rw [List.take_add_one, List.getElem?_eq_getElem hlt, List.mem_append]
        simp only [Option.toList_some, List.mem_singleton]
      obtain ⟨d, hd⟩ : ∃ d, d = (a0 == x && b0 == y) := ⟨_, rfl⟩
      have hde : d = true ↔ l[k] = (x, y) := by rw [hd, hlk', Bool.and_eq_true, beq_iff_eq, beq_iff_eq, Prod.mk.injEq]
      rw [← hd] at ho
      have hmem : l[k] ∈ l := List.getElem_mem hlt
      have HD := Lib.hid hde; have HST := Lib.hid hstep; have HNO := Lib.hid hno; have HB := Lib.hid hB; have HME := Lib.hid hmem
      clear hd hde hstep hno hB hz hmem hlk'
      cases d
      all_goals go_wp2_with (go_at_call 180; refine ho.mono ?_; intro e w2 hh; obtain ⟨hh1, b2⟩ := hh; subst hh1; have B2 := Lib.hid (HB.out.trans (b2.mono HB.out.size)); clear b2 ho)
      · go_roundw
        case rel => exact ⟨k + 1, by omega, by go_num, B2.out, fun c => by
          rcases HST.out.1 c with c | c
          · exact HNO.out c
          · have := HD.out.2 c.symm; cases this⟩
        case measure => simp [intOf]; omega
      · go_ret
        refine ⟨⟨k, rfl, ?_⟩, B2.out⟩
        have h1 := HD.out.1 (by first | rfl | trivial)
        have h2 := HME.out
        rw [h1] at h2
        rw [decide_eq_true h2]
        exact decide_eq_true (by omega)
    · obtain rfl : k = l.length := by omega
      rw [List.take_length] at hno
      have HNO := Lib.hid hno; have HB := Lib.hid hB
      clear hno hB
      go_wp2
      go_ret
      exact ⟨⟨-1, rfl, by rw [decide_eq_false HNO.out]; rfl⟩, HB.out⟩
theorem contains_places (l : List (Int × Int)) (ao : Option Addr) (cap : Nat) (x y : Int) (pb : Nat) (w : World) (hl : Plc w ao cap l) (h : w.heap[pb]? = some (.cells #[.int .i64 x, .int .i64 y] 41 (0, 0))) :
    Calls Tryz.prog 179 #[.slice ao l.length cap, .func (.func 180) #[] #[.pointer (some ⟨pb, 0, none⟩)]] w fun e w' => e = .returned (.bool (decide ((x, y) ∈ l))) ∧ Below w.heap.size w w' := by
  have hi := index_places l ao cap x y pb w hl h
  clear hl h
  go_enter Tryz.func179, Tryz.ntmps179
  go_wp2_with (go_at_call 232; refine hi.mono ?_; intro e w2 hh; obtain ⟨⟨i, hh1, hd⟩, b2⟩ := hh; subst hh1; have HB := Lib.hid b2; clear b2 hi)
  go_ret
  first
    | exact ⟨rfl, HB.out⟩
    | exact ⟨conf_b hd, HB.out⟩
/-- A list of places that the call made, without room. -/
def PlN (w : World) (base : Nat) (v : Value) (l : List (Int × Int)) : Prop :=
  (v = .slice none 0 0 ∧ l = []) ∨ ∃ g cur, v = .slice (some ⟨g, 0, none⟩) l.length l.length ∧ base ≤ g ∧ w.heap[g]? = some (.cells cur 41 (0, 0)) ∧ l.length ≤ maxLen ∧ cur.toList.take (l.length * 2) = flatP l
theorem clip_places (v : Value) (base : Nat) (l : List (Int × Int)) (w : World) (h : w.ownsRow base 41 2 v l.length (flatP l)) :
    Calls Tryz.prog 181 #[v] w fun e w' => ∃ v', e = .returned v' ∧ PlN w' base v' l ∧ w' = w := by
  obtain ⟨h1, ⟨rfl, h0⟩ | ⟨g, cap, cur, rfl, hb, hg, hn, hm, hs, ht⟩⟩ := h
  · have : l = [] := by cases l with | nil => rfl | cons x r => simp at h0
    subst this
    clear h1 h0
    go_enter Tryz.func181, Tryz.ntmps181
    go_wp2
    go_ret
    exact ⟨_, rfl, .inl ⟨rfl, rfl⟩, rfl⟩
  · have hm2 := Nat.le_trans hn hm
    unfold maxLen at hm hm2
    have HT := Lib.hid ht; have HG := Lib.hid hg
    clear ht hg hs h1
    go_enter Tryz.func181, Tryz.ntmps181
    go_wp2
    go_ret
    exact ⟨_, rfl, .inr ⟨g, cur, rfl, hb, HG.out, by unfold maxLen; omega, HT.out⟩, rfl⟩
theorem PlN.below {w w' : World} {base : Nat} {v : Value} {l : List (Int × Int)} (h : PlN w base v l) (hb : Below w.heap.size w w') : PlN w' base v l := by
  rcases h with h | ⟨g, cur, h1, h2, h3, h4⟩
  · exact .inl h
  · exact .inr ⟨g, cur, h1, h2, (hb.block _ (Array.getElem?_eq_some_iff.1 h3).1).trans h3, h4⟩
theorem PlN.plc {w : World} {base : Nat} {v : Value} {l : List (Int × Int)} (h : PlN w base v l) : ∃ ao, v = .slice ao l.length l.length ∧ Plc w ao l.length l := by
  rcases h with ⟨rfl, rfl⟩ | ⟨g, cur, rfl, h1, h2, h3, h4⟩
  · exact ⟨none, rfl, Nat.le_refl _, Nat.zero_le _, fun _ => rfl, .inl rfl⟩
  · refine ⟨_, rfl, Nat.le_refl _, h3, fun h => (by cases h), .inr ⟨g, 0, rfl, fun i hi => ?_⟩⟩
    obtain ⟨f1, f2⟩ := flatP_at l i hi
    rw [← h4, List.getElem?_take, if_pos (by omega), Array.getElem?_toList] at f1 f2
    rw [hcell h2, hcell h2, Nat.zero_add]
    exact ⟨f1, f2⟩
theorem own_plc {w : World} {base : Nat} {v : Value} {l : List (Int × Int)} (h : w.ownsRow base 41 2 v l.length (flatP l)) : ∃ ao cap, v = .slice ao l.length cap ∧ Plc w ao cap l := by
  obtain ⟨h1, ⟨rfl, h0⟩ | ⟨g, cap, cur, rfl, hb, hg, hn, hm, hs, ht⟩⟩ := h
  · have : l = [] := by cases l with | nil => rfl | cons x r => simp at h0
    subst this
    exact ⟨none, 0, rfl, Nat.le_refl _, Nat.zero_le _, fun _ => rfl, .inl rfl⟩
  · refine ⟨_, cap, rfl, hn, hm, fun h => (by cases h), .inr ⟨g, 0, rfl, fun i hi => ?_⟩⟩
    obtain ⟨f1, f2⟩ := flatP_at l i hi
    rw [← ht, List.getElem?_take, if_pos (by omega), Array.getElem?_toList] at f1 f2
    rw [hcell hg, hcell hg, Nat.zero_add]
    exact ⟨f1, f2⟩
set_option maxRecDepth 10000 in
set_option maxHeartbeats 2000000 in
theorem once_any (l : List (Int × Int)) (ao : Option Addr) (cap : Nat) (w : World) (hl : Plc w ao cap l) (hn : l.length ≤ 1000) :
    Calls Tryz.prog 106 #[.slice ao l.length cap] w fun e w' => ∃ v, e = .returned v ∧ PlN w' w.heap.size v (dedup l) ∧ Below w.heap.size w w' := by
  obtain ⟨i0, hi0, hz0, hz1, hz2⟩ := info_parts info_plcf
  have HI := Lib.hid hi0; have HZ0 := Lib.hid hz0; have HZ1 := Lib.hid hz1; have HZ2 := Lib.hid hz2
  have HL := Lib.hid hl
  clear hl hi0 hz0 hz1 hz2
  go_enter Tryz.func106, Tryz.ntmps106
  go_wp2
  go_loopw [2, 7] (fun v i wr => ∃ (k : Nat), k ≤ l.length ∧ i = .int .i64 k ∧ wr.ownsRow w.heap.size 41 2 v (dedup (l.take k)).length (flatP (dedup (l.take k))) ∧ Below w.heap.size w wr) (fun _ i _ => l.length - (intOf i).toNat)
  case atStart => exact ⟨0, by omega, rfl, World.ownsRow_nil _ _ _ _, Below.refl _ _⟩
  case round =>
    obtain ⟨k, hk, rfl, hown, hB⟩ := hrel
    by_cases hlt : k < l.length
    · have hlt' : (k : Int) < l.length := by omega
      obtain ⟨b, off, a0, b0, rfl, hlk, g0, g1⟩ := (HL.out.below hB).at k hlt
      have hlk' : l[k] = (a0, b0) := by rw [List.getElem?_eq_getElem hlt] at hlk; exact Option.some.inj hlk
      have hdt := dedup_take hlt
      rw [hlk'] at hdt
      have hdl : (dedup (l.take k)).length ≤ 1000 := by have := dedup_len (l.take k); rw [List.length_take] at this; omega
      have hba := below_alloc wr (.cells #[.int .i64 a0, .int .i64 b0] 41)
      have hza := heap_alloc_new wr (.cells #[.int .i64 a0, .int .i64 b0] 41)
      have hB2 := hB.trans (hba.mono hB.size)
      have hown2 := own_below hown hba
      generalize dedup (l.take k) = D at *
      have HPB := Lib.hid hB.size
      have HDT := Lib.hid hdt; have HB := Lib.hid hB2; have HOWN := Lib.hid hown2; have HZA := Lib.hid hza
      clear hdt hB hown hlk hlk' hba hza hB2 hown2
      go_upto_region 4 with (fail)
      change Code.wp _ _ _ _ (wr.alloc (.cells #[.int .i64 a0, .int .i64 b0] 41))
      generalize wr.alloc (.cells #[.int .i64 a0, .int .i64 b0] 41) = w3 at *
      generalize wr.heap.size = pb at *
      obtain ⟨ao2, cap2, rfl, hpl⟩ := own_plc HOWN.out
      have hc := contains_places D ao2 cap2 a0 b0 pb w3 hpl HZA.out
      clear hpl g0 g1
      obtain ⟨d, hd⟩ : ∃ d, d = decide ((a0, b0) ∈ D) := ⟨_, rfl⟩
      rw [← hd] at hc
      have HD := Lib.hid hd
      clear hd
      cases d
      · go_upto_region 5 with (go_at_call 179; refine hc.mono ?_; intro e w4 hh; obtain ⟨hh1, b4⟩ := hh; subst hh1; have B4 := Lib.hid (HB.out.trans (b4.mono HB.out.size)); have O4 := Lib.hid (own_below HOWN.out b4); have hz4 := (b4.block _ (Array.getElem?_eq_some_iff.1 HZA.out).1).trans HZA.out; have c0 := hcell hz4 0; have c1 := hcell hz4 1; clear b4 hc hz4)
        have hnot : (a0, b0) ∉ D := by have := HD.out; intro c; rw [decide_eq_true c] at this; cases this
        have hdt : dedup (l.take (k + 1)) = D ++ [(a0, b0)] := by rw [HDT.out, if_neg hnot]
        have HDT2 := Lib.hid hdt
        clear hnot hdt
        go_wp2_with (at_builtin; refine wpList_append_own _ rfl _ _ 74 rfl w.heap.size 41 i0 (.agg #[.int .i64 0, .int .i64 0]) 2 16 Tryz.underlying74 HI.out HZ0.out HZ1.out HZ2.out rfl (by decide) _ _ _ rfl (O4.out.alloc _) ⟨w4.heap.size, 0, none⟩ 1 1 [.int .i64 a0, .int .i64 b0] rfl rfl ?c1 ?c2 ?c3 ?c4 ?c5 ?_)
        case c1 => exact World.news_of_block (heap_alloc_new w4 _)
        case c2 => simp [Value.oneCell']
        case c3 => unfold maxLen; omega
        case c4 => omega
        case c5 => have := B4.out.size; simp; omega
        intro v' w5 hown' hgrow _
        have hb5 := (B4.out.alloc B4.out.size (.cells #[.int .i64 a0, .int .i64 b0] 41)).grown hgrow (by simp; have := B4.out.size; omega) (fun j hj => by have := (O4.out.lt j hj).1; omega)
        have HB5 := Lib.hid hb5; have HO5 := Lib.hid hown'
        clear hb5 hown' hgrow c0 c1
        go_wp2
        go_roundw
        case rel => exact ⟨k + 1, by omega, by go_num, by rw [HDT2.out, flatP_snoc, show (D ++ [(a0, b0)]).length = D.length + 1 by simp]; exact HO5.out, HB5.out⟩
        case measure => simp [intOf]; omega
      · have hin : (a0, b0) ∈ D := by have := HD.out; exact of_decide_eq_true this.symm
        have hdt : dedup (l.take (k + 1)) = D := by rw [HDT.out, if_pos hin]
        have HDT2 := Lib.hid hdt
        clear hin hdt
        go_wp2_with (go_at_call 179; refine hc.mono ?_; intro e w4 hh; obtain ⟨hh1, b4⟩ := hh; subst hh1; have B4 := Lib.hid (HB.out.trans (b4.mono HB.out.size)); have O4 := Lib.hid (own_below HOWN.out b4); clear b4 hc)
        go_roundw
        case rel => exact ⟨k + 1, by omega, by go_num, by rw [HDT2.out]; exact O4.out, B4.out⟩
        case measure => simp [intOf]; omega
    · obtain rfl : k = l.length := by omega
      rw [List.take_length] at hown
      have hcl := clip_places _ _ (dedup l) wr hown
      have HB := Lib.hid hB
      clear hown hB
      go_wp2_with (go_at_call 181; refine hcl.mono ?_; intro e w4 hh; obtain ⟨v', hh1, hp, hh2⟩ := hh; subst hh1; obtain rfl := hh2.symm; have HP := Lib.hid hp; clear hp hcl)
      go_ret
      exact ⟨_, rfl, HP.out, HB.out⟩
/-- The places of a hash in a table. -/
def pairOf (h b : Int) : List (Int × Int) := if b = 0 then [] else [(b, bk h b), (b, oth (bk h b) (tag01 h) b)]
theorem flat_four (a b c d : Int) : flatP [(a, b), (c, d)] = [.int .i64 a, .int .i64 b, .int .i64 c, .int .i64 d] := rfl
theorem pair_no (h : Int) (w : World) : Calls Tryz.prog 107 #[.int .u64 h, .int .i64 0] w fun e w' => e = .returned (.slice none 0 0) ∧ w' = w := by
  have hbn := fun w => bucket_no h w
  go_enter Tryz.func107, Tryz.ntmps107
  go_wp2_with (go_at_call 54; refine (hbn _).mono ?_; rintro e w1 ⟨rfl, hw⟩; obtain rfl := hw.symm)
  go_ret
  exact ⟨rfl, rfl⟩
theorem pair_in (h b : Int) (h0 : 0 ≤ h) (h1 : h < 18446744073709551616) (hb : 1 ≤ b ∧ b ≤ 12) (w : World) : Calls Tryz.prog 107 #[.int .u64 h, .int .i64 b] w fun e w' => ∃ g, e = .returned (.slice (some ⟨g, 0, none⟩) 2 2) ∧ w'.heap[g]? = some (.cells #[.int .i64 b, .int .i64 (bk h b), .int .i64 b, .int .i64 (oth (bk h b) (tag01 h) b)] 41 (0, 0)) ∧ w.heap.size ≤ g ∧ Below w.heap.size w w' := by
  have hbf := fun w => bucket_fn h b h0 h1 hb w
  have htf := fun w => tag_fn h h0 h1 w
  have hkb := bk_bd h b hb
  have hof := fun w => other_fn (bk h b) (tag01 h) b hb hkb (tag01_bd h h0 h1) w
  generalize oth (bk h b) (tag01 h) b = O at *
  generalize bk h b = K at *
  generalize tag01 h = T at *
  have e1 : decide (K < 0) = false := decide_eq_false (by omega)
  have HZ := Lib.hid (heap_alloc_new w (.cells #[.int .i64 b, .int .i64 K, .int .i64 b, .int .i64 O] 41))
  have HB := Lib.hid (below_alloc w (.cells #[.int .i64 b, .int .i64 K, .int .i64 b, .int .i64 O] 41))
  clear hkb hb
  go_enter Tryz.func107, Tryz.ntmps107
  go_wp2_with (first
    | (go_at_call 54; refine (hbf _).mono ?_; rintro e w1 ⟨rfl, hw⟩; obtain rfl := hw.symm)
    | (go_at_call 56; refine (htf _).mono ?_; rintro e w1 ⟨rfl, hw⟩; obtain rfl := hw.symm)
    | (go_at_call 55; refine (hof _).mono ?_; rintro e w1 ⟨rfl, hw⟩; obtain rfl := hw.symm))
  go_ret
  exact ⟨_, rfl, HZ.out, Nat.le_refl _, HB.out⟩
/-- The places of a hash in tables. -/
def plist (h v : Int) : List (Int × Int) := dedup (pairOf h (asOld v) ++ pairOf h (asNow v))
theorem as_in12 (v : Int) : (1 ≤ asOld v ∧ asOld v ≤ 12) ∧ (asNow v = 0 ∨ (1 ≤ asNow v ∧ asNow v ≤ 12)) := by
  have key : ∀ b : Int, ¬ tsize b = 0 → 1 ≤ b ∧ b ≤ 12 := fun b h => by
    rcases (show (b < 1 ∨ 12 < b) ∨ (1 ≤ b ∧ b ≤ 12) by omega) with h1 | h1
    · exact absurd (tsize_out h1) h
    · exact h1
  refine ⟨?_, ?_⟩
  · unfold asOld; split
    · omega
    · rename_i h; exact key _ h
  · unfold asNow; split
    · exact .inl rfl
    · rename_i h; exact .inr (key _ (fun c => h (.inr c)))
theorem pairOf_in (h b : Int) (hb : 1 ≤ b ∧ b ≤ 12) : pairOf h b = [(b, bk h b), (b, oth (bk h b) (tag01 h) b)] := by unfold pairOf; rw [if_neg (by omega)]
theorem pair_own {w : World} {base g : Nat} {a b c d : Int} (hz : w.heap[g]? = some (.cells #[.int .i64 a, .int .i64 b, .int .i64 c, .int .i64 d] 41 (0, 0))) (hlo : base ≤ g) : w.ownsRow base 41 2 (.slice (some ⟨g, 0, none⟩) 2 2) 2 (flatP [(a, b), (c, d)]) :=
  ⟨rfl, .inr ⟨g, 2, _, rfl, hlo, hz, Nat.le_refl _, by unfold maxLen; omega, rfl, rfl⟩⟩
theorem pair_plc {w : World} {base g : Nat} {a b c d : Int} (h : w.ownsRow base 41 2 (.slice (some ⟨g, 0, none⟩) 2 2) 2 (flatP [(a, b), (c, d)])) : Plc w (some ⟨g, 0, none⟩) 2 [(a, b), (c, d)] := by
  obtain ⟨ao, cap, hv, hp⟩ := own_plc (l := [(a, b), (c, d)]) h
  simp only [List.length_cons, List.length_nil, Value.slice.injEq] at hv
  obtain ⟨h1, -, h2⟩ := hv
  rw [h1, h2]; exact hp
set_option maxHeartbeats 2000000 in
theorem places_any (h v : Int) (h0 : 0 ≤ h) (h1 : h < 18446744073709551616) (hv : (Lit.int .u64 v).wf = true) (w : World) : Calls Tryz.prog 31 #[.int .u64 h, .int .u64 v] w fun e w' => ∃ pv, e = .returned pv ∧ PlN w' w.heap.size pv (plist h v) ∧ Below w.heap.size w w' := by
  have has := fun w => as_any v hv w
  obtain ⟨hin1, hin2⟩ := as_in12 v
  have hp1 := fun w => pair_in h (asOld v) h0 h1 hin1 w
  have hpo := pairOf_in h (asOld v) hin1
  obtain ⟨i0, hi0, hz0, hz1, hz2⟩ := info_parts info_plcf
  have HI := Lib.hid hi0; have HZ0 := Lib.hid hz0; have HZ1 := Lib.hid hz1; have HZ2 := Lib.hid hz2
  clear hi0 hz0 hz1 hz2
  unfold plist
  rcases hin2 with hz | hin2
  · have hpn : pairOf h (asNow v) = [] := by unfold pairOf; rw [if_pos hz]
    have hp2 := fun w => pair_no h w
    rw [hz] at has
    rw [hpn, hpo, List.append_nil]
    generalize oth (bk h (asOld v)) (tag01 h) (asOld v) = O at *
    generalize bk h (asOld v) = K at *
    generalize asOld v = b at *
    clear hpn hpo hz hin1
    go_enter Tryz.func31, Tryz.ntmps31
    go_upto_region 2 with (go_at_call 53; refine (has _).mono ?_; rintro e w1 ⟨rfl, hw⟩; obtain rfl := hw.symm; clear has)
    go_wp2_with (first
      | (go_at_call 107; with_reducible refine (hp1 _).mono ?_; intro e w2 hh; obtain ⟨g, hh1, hz2, hlo, b2⟩ := hh; subst hh1; have B2 := Lib.hid b2; have HOWN := Lib.hid (pair_own hz2 hlo); clear b2 hz2 hlo hp1)
      | (go_at_call 107; with_reducible refine (hp2 _).mono ?_; intro e w3 hh; obtain ⟨hh1, hh2⟩ := hh; subst hh1; obtain rfl := hh2.symm; clear hp2)
      | (at_builtin; refine wpList_append_own_none rfl _ _ 74 rfl w.heap.size 41 i0 2 Tryz.underlying74 HI.out _ 2 _ rfl HOWN.out rfl ?_; have hpl := pair_plc HOWN.out; have honce := once_any _ _ _ _ hpl (by simp))
      | (go_at_call 106; refine honce.mono ?_; intro e w4 hh; obtain ⟨v4, hh1, hp4, b4⟩ := hh; subst hh1; have HP4 := Lib.hid hp4; have B4 := Lib.hid b4; clear hp4 b4 honce hpl))
    go_ret
    refine ⟨_, rfl, ?_, B2.out.trans (B4.out.mono B2.out.size)⟩
    rcases HP4.out with h | ⟨g, cur, e1, e2, e3⟩
    · exact .inl h
    · exact .inr ⟨g, cur, e1, Nat.le_trans B2.out.size e2, e3⟩
  · have hp2 := fun w => pair_in h (asNow v) h0 h1 hin2 w
    have hpo2 := pairOf_in h (asNow v) hin2
    rw [hpo, hpo2]
    generalize oth (bk h (asOld v)) (tag01 h) (asOld v) = O at *
    generalize bk h (asOld v) = K at *
    generalize asOld v = b at *
    generalize oth (bk h (asNow v)) (tag01 h) (asNow v) = O2 at *
    generalize bk h (asNow v) = K2 at *
    generalize asNow v = b2 at *
    clear hpo hpo2 hin1 hin2
    go_enter Tryz.func31, Tryz.ntmps31
    go_upto_region 2 with (go_at_call 53; refine (has _).mono ?_; rintro e w1 ⟨rfl, hw⟩; obtain rfl := hw.symm; clear has)
    go_wp2_with (first
      | (go_at_call 107; with_reducible refine (hp1 _).mono ?_; intro e w2 hh; obtain ⟨g, hh1, hz2, hlo, k2⟩ := hh; subst hh1; have B2 := Lib.hid k2; have HOWN := Lib.hid (pair_own hz2 hlo); clear k2 hz2 hlo hp1)
      | (go_at_call 107; with_reducible refine (hp2 _).mono ?_; intro e w3 hh; obtain ⟨g2, hh1, hz3, hlo3, k3⟩ := hh; subst hh1; have B3 := Lib.hid (B2.out.trans (k3.mono B2.out.size)); have HOWN3 := Lib.hid (own_below HOWN.out k3); have HZ3 := Lib.hid hz3; clear k3 hz3 hlo3 hp2)
      | (at_builtin; refine wpList_append_own _ rfl _ _ 74 rfl w.heap.size 41 i0 (.agg #[.int .i64 0, .int .i64 0]) 2 16 Tryz.underlying74 HI.out HZ0.out HZ1.out HZ2.out rfl (by decide) _ 2 _ rfl HOWN3.out ⟨g2, 0, none⟩ 2 2 (flatP [(b2, K2), (b2, O2)]) rfl rfl ?c1 ?c2 ?c3 ?c4 ?c5 ?_))
    case c1 =>
      intro j u hj
      have e := hcell HZ3.out j
      rw [show (⟨g2, 0, none⟩ : Addr).add j = ⟨g2, j, none⟩ by first | (simp [Addr.add]; done) | (simp [Addr.add]; omega)]
      rw [e]
      rcases (show j = 0 ∨ j = 1 ∨ j = 2 ∨ j = 3 ∨ 4 ≤ j by omega) with rfl | rfl | rfl | rfl | h4
      · exact hj
      · exact hj
      · exact hj
      · exact hj
      · rw [List.getElem?_eq_none (by rw [flatP_len]; simp; omega)] at hj; cases hj
    case c2 => simp [flatP, Value.oneCell']
    case c3 => unfold maxLen; omega
    case c4 => omega
    case c5 => exact B3.out.size
    intro v' w5 hown' hgrow _
    have hb5 := B3.out.grown hgrow B3.out.size (fun j hj => (HOWN3.out.lt j hj).1)
    have hl4 : flatP [(b, K), (b, O)] ++ flatP [(b2, K2), (b2, O2)] = flatP ([(b, K), (b, O)] ++ [(b2, K2), (b2, O2)]) := rfl
    rw [hl4] at hown'
    obtain ⟨ao, cap, rfl, hpl⟩ := own_plc (l := [(b, K), (b, O)] ++ [(b2, K2), (b2, O2)]) hown'
    have honce := once_any _ _ _ _ hpl (by simp)
    have HB5 := Lib.hid hb5
    clear hb5 hown' hgrow hpl hl4
    go_wp2_with (go_at_call 106; refine honce.mono ?_; intro e w4 hh; obtain ⟨v4, hh1, hp4, b4⟩ := hh; subst hh1; have HP4 := Lib.hid hp4; have B4 := Lib.hid b4; clear hp4 b4 honce)
    go_ret
    refine ⟨_, rfl, ?_, HB5.out.trans (B4.out.mono HB5.out.size)⟩
    rcases HP4.out with h | ⟨g, cur, e1, e2, e3⟩
    · exact .inl h
    · exact .inr ⟨g, cur, e1, Nat.le_trans HB5.out.size e2, e3⟩
/-! ## Places of one table, and of two. -/
theorem dedup_append (l m : List (Int × Int)) (h : ∀ p ∈ l, ∀ q ∈ m, p ≠ q) : dedup (l ++ m) = dedup l ++ dedup m := by
  have mem : ∀ (l o : List (Int × Int)) (p : Int × Int), p ∈ l.foldl (fun out p => if p ∈ out then out else out ++ [p]) o → p ∈ o ∨ p ∈ l := by
    intro l
    induction l with
    | nil => intro o p hp; exact .inl hp
    | cons q l ih =>
      intro o p hp
      rw [List.foldl_cons] at hp
      split at hp
      · rcases ih _ _ hp with h | h
        · exact .inl h
        · exact .inr (by simp [h])
      · rcases ih _ _ hp with h | h
        · rcases List.mem_append.1 h with h | h
          · exact .inl h
          · exact .inr (by simp at h; simp [h])
        · exact .inr (by simp [h])
  have key : ∀ (m a o : List (Int × Int)), (∀ p ∈ a, ∀ q ∈ m, p ≠ q) → m.foldl (fun out p => if p ∈ out then out else out ++ [p]) (a ++ o) = a ++ m.foldl (fun out p => if p ∈ out then out else out ++ [p]) o := by
    intro m
    induction m with
    | nil => intro a o _; rfl
    | cons q m ih =>
      intro a o ha
      have hqa : q ∉ a := fun c => ha q c q (by simp) rfl
      have ha2 : ∀ p ∈ a, ∀ q ∈ m, p ≠ q := fun p hp r hr => ha p hp r (by simp [hr])
      rw [List.foldl_cons, List.foldl_cons]
      by_cases hqo : q ∈ o
      · rw [if_pos (List.mem_append.2 (.inr hqo)), if_pos hqo]; exact ih a o ha2
      · rw [if_neg (fun c => by rcases List.mem_append.1 c with c | c; exact hqa c; exact hqo c), if_neg hqo, List.append_assoc]
        exact ih a (o ++ [q]) ha2
  unfold dedup
  rw [List.foldl_append]
  have := key m (l.foldl (fun out p => if p ∈ out then out else out ++ [p]) []) [] (fun p hp q hq => by
    rcases mem l [] p hp with c | c
    · cases c
    · exact h p c q hq)
  rw [List.append_nil] at this
  exact this
theorem dedup_pair (a b : Int × Int) : dedup [a, b] = if b = a then [a] else [a, b] := by
  unfold dedup
  simp only [List.foldl_cons, List.foldl_nil, List.not_mem_nil, if_false, List.nil_append, List.mem_singleton]
  split <;> simp
end Go.Proofs.YtdbgfidnccpmdaaGreat
