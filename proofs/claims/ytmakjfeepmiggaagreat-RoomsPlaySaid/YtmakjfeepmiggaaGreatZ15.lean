import Derived.Test.YtmakjfeepmiggaaGreatZ13
import Derived.Test.YtmakjfeepmiggaaGreatZ14
import Derived.Test.YtmakjfeepmiggaaGreatB1
import Derived.Maps.Own
import Derived.Maps.OwnSet
namespace Go.Proofs.YtmakjfeepmiggaaGreat
open Go.RowKit Go.Maps TagPure
set_option linter.unusedVariables false
inductive Dg where
  | mark (xs : List Int)
  | out (σ : SL)
  | put (σ : SL) (g r : Int)
def Dg.ty : Dg → TypeId
  | .mark _ => 350
  | .out _ => 353
  | .put _ _ _ => 181
def DgAt (w : World) (b : Nat) : Dg → Prop
  | .mark xs => MarkAt w b xs
  | .out σ => SlotAt w b 360 σ []
  | .put σ g r => SlotAt w b 261 σ [.int .i64 g, .int .i64 r]
def Dg.over : Dg → Bool
  | .mark xs => decide (xs = [])
  | .out σ => (σ.tg == 0) || (σ.ln == 3)
  | .put σ _ _ => (σ.tg == 0) || (σ.ln == 3)
structure SOk (σ : SL) : Prop where
  tg : (Lit.int .u64 σ.tg).wf = true
  it : (Lit.int .u64 σ.it).wf = true
  x : 0 ≤ σ.x ∧ σ.x < 18446744073709551616
  ln : σ.ln = 0 ∨ σ.ln = 1 ∨ σ.ln = 2 ∨ σ.ln = 3
def Dg.ok : Dg → Prop
  | .mark xs => ∀ a ∈ xs, (Lit.int .u64 a).wf = true
  | .out σ => SOk σ
  | .put σ _ r => SOk σ ∧ 0 ≤ r ∧ r < 9223372036854775808
def Dg.step (s : CS) : Dg → CS × Dg
  | .mark [] => (s, .mark [])
  | .mark (a :: r) => (s.acc 4 a (wu (s.val a + 1)), .mark r)
  | .out σ =>
    if σ.ln = 0 then (s.acc 1 σ.tg (s.val σ.tg), .out { σ with x := s.val σ.tg, ln := 1 })
    else if σ.ln = 1 then (s.acc 2 σ.tg (TagPure.withOf σ.x σ.at_ 0), .out { σ with ln := 2 })
    else (s.acc 2 σ.it 0, .out { σ with ln := 3 })
  | .put σ g r =>
    if σ.ln = 0 then (s.acc 2 σ.it r, .put { σ with ln := 1 } g r)
    else if σ.ln = 1 then (s.acc 1 σ.tg (s.val σ.tg), .put { σ with x := s.val σ.tg, ln := 2 } g r)
    else (s.acc 2 σ.tg (TagPure.withOf σ.x σ.at_ g), .put { σ with ln := 3 } g r)
section
variable {w w' : World} {b q : Nat} {d : Dg}
theorem DgAt.blk (h : DgAt w b d) : ∃ cs T, w.heap[b]? = some (.cells cs T (0, 0)) ∧ (T = 358 ∨ T = 360 ∨ T = 261) := by
  cases d with
  | mark xs => obtain ⟨v, h1, -⟩ := h; exact ⟨_, _, h1, .inl rfl⟩
  | out σ => exact ⟨_, _, h, .inr (.inl rfl)⟩
  | put σ g r => exact ⟨_, _, h, .inr (.inr rfl)⟩
theorem DgAt.lt (h : DgAt w b d) : b < w.heap.size := by obtain ⟨cs, T, h1, -⟩ := h.blk; exact (Array.getElem?_eq_some_iff.1 h1).1
theorem DgAt.below (h : DgAt w b d) (hb : Below w.heap.size w w') : DgAt w' b d := by
  cases d with
  | mark xs => exact MarkAt.keep h hb
  | out σ => exact SlotAt.below h hb
  | put σ g r => exact SlotAt.below h hb
theorem DgAt.fx {K : TypeId → Bool} {mp : Bool} {c : Nat} (h : DgAt w b d) (hf : Fx K mp c w w') (h1 : K 358 = false) (h2 : K 39 = false) (h3 : K 360 = false) (h4 : K 261 = false) (hc : ∃ cs T fr, w.heap[c]? = some (.cells cs T fr) ∧ T ≠ 39) (hne : b ≠ c) : DgAt w' b d := by
  cases d with
  | mark xs =>
    obtain ⟨v, g1, g2⟩ := h
    refine ⟨v, hf.cells _ _ _ _ g1 h1 hne, ?_⟩
    rcases g2 with g2 | ⟨g, off, cur, rfl, g3, g4⟩
    · exact .inl g2
    · refine .inr ⟨g, off, cur, rfl, hf.cells _ _ _ _ g3 h2 ?_, g4⟩
      rintro rfl
      obtain ⟨cs, T, fr, e, hT⟩ := hc
      rw [g3] at e
      simp only [Option.some.injEq, Obj.cells.injEq] at e
      exact hT e.2.1.symm
  | out σ => exact hf.cells _ _ _ _ h h3 hne
  | put σ g r => exact hf.cells _ _ _ _ h h4 hne
theorem Dg.ok_step {s : CS} (h : d.ok) (hs : ∀ a, 0 ≤ s.val a ∧ s.val a < 18446744073709551616) : (d.step s).2.ok := by
  cases d with
  | mark xs => cases xs with
    | nil => exact h
    | cons a r => exact fun x hx => h x (List.mem_cons_of_mem _ hx)
  | out σ =>
    obtain ⟨h1, h2, h3, h4⟩ := h
    unfold Dg.step
    dsimp only
    split
    · exact ⟨h1, h2, hs _, .inr (.inl rfl)⟩
    · split
      · exact ⟨h1, h2, h3, .inr (.inr (.inl rfl))⟩
      · exact ⟨h1, h2, h3, .inr (.inr (.inr rfl))⟩
  | put σ g r =>
    obtain ⟨⟨h1, h2, h3, h4⟩, hr⟩ := h
    unfold Dg.step
    dsimp only
    split
    · exact ⟨⟨h1, h2, h3, .inr (.inl rfl)⟩, hr⟩
    · split
      · exact ⟨⟨h1, h2, hs _, .inr (.inr (.inl rfl))⟩, hr⟩
      · exact ⟨⟨h1, h2, h3, .inr (.inr (.inr rfl))⟩, hr⟩
end
theorem dgover_mark {w : World} {b : Nat} {xs : List Int} (h : DgAt w b (.mark xs)) : Calls Tryz.prog 280 #[.pointer (some ⟨b, 0, none⟩)] w fun e w' => e = .returned (.bool (Dg.mark xs).over) ∧ Below w.heap.size w w' :=
  (over_any h).mono fun e w' ⟨h1, h2⟩ => ⟨h1, by subst h2; exact Below.refl _ _⟩
theorem dgover_out {w : World} {b : Nat} {σ : SL} (h : DgAt w b (.out σ)) : Calls Tryz.prog 287 #[.pointer (some ⟨b, 0, none⟩)] w fun e w' => e = .returned (.bool (Dg.out σ).over) ∧ Below w.heap.size w w' :=
  Outover h _ _ rfl rfl
theorem dgover_put {w : World} {b : Nat} {σ : SL} {g r : Int} (h : DgAt w b (.put σ g r)) : Calls Tryz.prog 271 #[.pointer (some ⟨b, 0, none⟩)] w fun e w' => e = .returned (.bool (Dg.put σ g r).over) ∧ Below w.heap.size w w' :=
  Putover h _ _ rfl rfl
section
variable {w0 w : World} {B : WB} {V : WV} {s : CS} {b : Nat} (h : WS w0 w B V s) (hr : s.room) (hlo : w0.heap.size ≤ b)
include h hr hlo
abbrev DgPost (w0 w : World) (B : WB) (V : WV) (s : CS) (b : Nat) (d : Dg) (e : Ending) (w' : World) : Prop := (∃ v, e = .returned (.bool v)) ∧ WS w0 w' B V (d.step s).1 ∧ DgAt w' b (d.step s).2 ∧ Fx wTy true b w w'
theorem dgstep_mark {xs : List Int} (hd : DgAt w b (.mark xs)) (ho : (Dg.mark xs).over = false) (hk : (Dg.mark xs).ok) : Calls Tryz.prog 281 #[.pointer (some ⟨b, 0, none⟩), .pointer (some ⟨B.wb, 0, none⟩)] w (DgPost w0 w B V s b (.mark xs)) := by
  cases xs with
  | nil => cases ho
  | cons a r => exact (wmstep h hr hd hlo (hk a (List.mem_cons_self))).mono fun e w' ⟨h1, h2, h3, h4⟩ => ⟨⟨_, h1⟩, h2, h3, h4⟩
theorem dgstep_out {σ : SL} (hd : DgAt w b (.out σ)) (ho : (Dg.out σ).over = false) (hk : (Dg.out σ).ok) : Calls Tryz.prog 288 #[.pointer (some ⟨b, 0, none⟩), .pointer (some ⟨B.wb, 0, none⟩)] w (DgPost w0 w B V s b (.out σ)) := by
  have ho2 : (σ.tg == 0) = false ∧ (σ.ln == 3) = false := by simpa [Dg.over] using ho
  have hz : σ.tg ≠ 0 := by have := ho2.1; simpa using this
  have hl3 : σ.ln ≠ 3 := by have := ho2.2; simpa using this
  rcases hk.ln with hl | hl | hl | hl
  · refine (out_step0 h hr hlo hd hz hk.tg hl).mono fun e w' ⟨h1, h2, h3, h4⟩ => ⟨⟨_, h1⟩, ?_, ?_, h4⟩ <;> (unfold Dg.step; dsimp only; rw [if_pos hl]); exact h2; exact h3
  · refine (out_step1 h hr hlo hd hz hk.tg hl hk.x).mono fun e w' ⟨h1, h2, h3, h4⟩ => ⟨⟨_, h1⟩, ?_, ?_, h4⟩ <;> (unfold Dg.step; dsimp only; rw [if_neg (by omega), if_pos hl]); exact h2; exact h3
  · refine (out_step2 h hr hlo hd hz hk.tg hl hk.it).mono fun e w' ⟨h1, h2, h3, h4⟩ => ⟨⟨_, h1⟩, ?_, ?_, h4⟩ <;> (unfold Dg.step; dsimp only; rw [if_neg (by omega), if_neg (by omega)]); exact h2; exact h3
  · exact absurd hl hl3
theorem dgstep_put {σ : SL} {g r : Int} (hd : DgAt w b (.put σ g r)) (ho : (Dg.put σ g r).over = false) (hk : (Dg.put σ g r).ok) : Calls Tryz.prog 272 #[.pointer (some ⟨b, 0, none⟩), .pointer (some ⟨B.wb, 0, none⟩)] w (DgPost w0 w B V s b (.put σ g r)) := by
  have ho2 : (σ.tg == 0) = false ∧ (σ.ln == 3) = false := by simpa [Dg.over] using ho
  have hz : σ.tg ≠ 0 := by have := ho2.1; simpa using this
  have hl3 : σ.ln ≠ 3 := by have := ho2.2; simpa using this
  obtain ⟨hk, hrr⟩ := hk
  rcases hk.ln with hl | hl | hl | hl
  · refine (put_step0 h hr hlo hd hz hk.tg hl hk.it hrr).mono fun e w' ⟨h1, h2, h3, h4⟩ => ⟨⟨_, h1⟩, ?_, ?_, h4⟩ <;> (unfold Dg.step; dsimp only; rw [if_pos hl]); exact h2; exact h3
  · refine (put_step1 h hr hlo hd hz hk.tg hl).mono fun e w' ⟨h1, h2, h3, h4⟩ => ⟨⟨_, h1⟩, ?_, ?_, h4⟩ <;> (unfold Dg.step; dsimp only; rw [if_neg (by omega), if_pos hl]); exact h2; exact h3
  · refine (put_step2 h hr hlo hd hz hk.tg hl hk.x).mono fun e w' ⟨h1, h2, h3, h4⟩ => ⟨⟨_, h1⟩, ?_, ?_, h4⟩ <;> (unfold Dg.step; dsimp only; rw [if_neg (by omega), if_neg (by omega)]); exact h2; exact h3
  · exact absurd hl hl3
end
end Go.Proofs.YtmakjfeepmiggaaGreat
namespace Go.Proofs.YtmakjfeepmiggaaGreat
set_option linter.unusedVariables false
abbrev Nd := Int × Int × Int
def bks (l : List Nd) : List Int := l.map (·.1)
def nd (l : List Nd) (i : Nat) : Nd := l.getD i (0, 0, 0)
def wadd (cap b : Int) (f : Int × Int) (l : List Nd) : List Nd := if (l.length : Int) < cap ∧ b ∉ bks l then l ++ [(b, f)] else l
def wexp (cap : Int) (o : Int → Nat → Int) (b : Int) (k : Nat) (l : List Nd) : List Nd := [0, 1, 2, 3].foldl (fun l s => wadd cap (o b s) ((k : Int), ((s : Nat) : Int)) l) l
def wpath (l : List Nd) : Nat → Nat → Int → List (Int × Int)
  | 0, _, _ => []
  | n + 1, i, s => ((nd l i).1, s) :: (if (nd l i).2.1 = -1 then [] else wpath l n (nd l i).2.1.toNat (nd l i).2.2)
def wway (l : List Nd) (k : Nat) (s : Int) : List (Int × Int) := (wpath l l.length k s).reverse
def Ahead (l : List Nd) : Prop := ∀ i, i < l.length → (nd l i).2.1 = -1 ∨ (0 ≤ (nd l i).2.1 ∧ (nd l i).2.1 < i)
theorem nd_app_left {l : List Nd} {i : Nat} (h : i < l.length) (r : List Nd) : nd (l ++ r) i = nd l i := by
  unfold nd; simp [List.getD_eq_getElem?_getD, List.getElem?_append_left h]
theorem nd_pre {l m : List Nd} (h : l <+: m) {i : Nat} (hi : i < l.length) : nd m i = nd l i := by
  obtain ⟨r, rfl⟩ := h; exact nd_app_left hi r
theorem nd_last (l : List Nd) (x : Nd) : nd (l ++ [x]) l.length = x := by unfold nd; simp [List.getD_eq_getElem?_getD]
theorem nd_mem {l : List Nd} {i : Nat} (h : i < l.length) : (nd l i).1 ∈ bks l := by
  unfold bks nd
  rw [List.getD_eq_getElem?_getD, List.getElem?_eq_getElem h]
  exact List.mem_map.2 ⟨l[i], List.getElem_mem h, rfl⟩
theorem nd_of_mem {l : List Nd} {b : Int} (h : b ∈ bks l) : ∃ i, i < l.length ∧ (nd l i).1 = b := by
  obtain ⟨x, hx, rfl⟩ := List.mem_map.1 h
  obtain ⟨i, hi, rfl⟩ := List.mem_iff_getElem.1 hx
  exact ⟨i, hi, by unfold nd; rw [List.getD_eq_getElem?_getD, List.getElem?_eq_getElem hi]; rfl⟩
theorem bks_app (l : List Nd) (b : Int) (f : Int × Int) : bks (l ++ [(b, f)]) = bks l ++ [b] := by simp [bks]
theorem bks_len (l : List Nd) : (bks l).length = l.length := by simp [bks]
theorem wadd_pre (cap b : Int) (f : Int × Int) (l : List Nd) : l <+: wadd cap b f l := by
  unfold wadd; split
  · exact List.prefix_append _ _
  · exact List.prefix_refl _
theorem fold_pre {α : Type} (g : List Nd → α → List Nd) (hg : ∀ l a, l <+: g l a) (xs : List α) : ∀ l, l <+: xs.foldl g l := by
  induction xs with
  | nil => intro l; exact List.prefix_refl _
  | cons a r ih => intro l; exact (hg l a).trans (ih _)
theorem wexp_pre (cap : Int) (o : Int → Nat → Int) (b : Int) (k : Nat) (l : List Nd) : l <+: wexp cap o b k l := fold_pre _ (fun l s => wadd_pre _ _ _ l) _ l
theorem wexp_keeps {P : List Nd → Prop} (cap : Int) (o : Int → Nat → Int) (b : Int) (k : Nat) (h : ∀ l, P l → ∀ s, s < 4 → (l.length : Int) < cap → o b s ∉ bks l → P (l ++ [(o b s, ((k : Int), (s : Int)))])) : ∀ l, P l → P (wexp cap o b k l) := by
  have one : ∀ l s, s < 4 → P l → P (wadd cap (o b s) ((k : Int), (s : Int)) l) := fun l s hs hl => by
    unfold wadd; split
    · rename_i hc; exact h l hl s hs hc.1 hc.2
    · exact hl
  intro l hl
  exact one _ 3 (by omega) (one _ 2 (by omega) (one _ 1 (by omega) (one _ 0 (by omega) hl)))
theorem ahead_add {l : List Nd} (h : Ahead l) (b : Int) (k : Nat) (hk : k < l.length) (s : Int) : Ahead (l ++ [(b, ((k : Int), s))]) := by
  intro i hi
  rw [List.length_append, List.length_singleton] at hi
  by_cases hil : i < l.length
  · rw [nd_app_left hil]; exact h i hil
  · obtain rfl : i = l.length := by omega
    rw [nd_last]
    exact .inr ⟨by simp, by simp; omega⟩
theorem ahead_exp (cap : Int) (o : Int → Nat → Int) (b : Int) (k : Nat) {l : List Nd} (h : Ahead l) (hk : k < l.length) : Ahead (wexp cap o b k l) := by
  refine (wexp_keeps (P := fun l => k < l.length ∧ Ahead l) cap o b k (fun l hl s _ _ _ => ⟨?_, ahead_add hl.2 _ k hl.1 _⟩) l ⟨hk, h⟩).2
  rw [List.length_append]; have := hl.1; omega
theorem bks_pre {x y : List Nd} (h : x <+: y) : bks x <+: bks y := h.map _
structure Tab (N : Nat) (o : Int → Nat → Int) : Prop where
  o_in : ∀ (b : Int) (s : Nat), 0 ≤ b → b < N → s < 4 → 0 ≤ o b s ∧ o b s < N
structure WIn (N : Nat) (l : List Nd) : Prop where
  nodup : (bks l).Nodup
  rng : ∀ b ∈ bks l, 0 ≤ b ∧ b < N
theorem nodup_len : ∀ (N : Nat) (l : List Int), l.Nodup → (∀ b ∈ l, 0 ≤ b ∧ b < N) → l.length ≤ N := by
  intro N
  induction N with
  | zero =>
    intro l _ h
    cases l with
    | nil => exact Nat.le_refl _
    | cons a r => have := h a (by simp); omega
  | succ N ih =>
    intro l hn h
    have h1 := ih (l.filter (· ≠ (N : Int))) (hn.filter _) (fun b hb => by
      simp only [List.mem_filter, decide_eq_true_eq] at hb
      have := h b hb.1
      have h2 := hb.2
      simp only [ne_eq] at h2
      omega)
    have h2 : l.length ≤ (l.filter (· ≠ (N : Int))).length + 1 := by
      clear h h1
      induction l with
      | nil => simp
      | cons a r ih2 =>
        have hn2 := List.nodup_cons.1 hn
        by_cases ha : a = (N : Int)
        · subst ha
          have : r.filter (· ≠ (N : Int)) = r := List.filter_eq_self.2 fun x hx => by
            simp only [ne_eq, decide_eq_true_eq]
            intro c; subst c; exact hn2.1 hx
          rw [List.filter_cons_of_neg (by simp), this]; simp
        · have := ih2 hn2.2
          rw [List.filter_cons_of_pos (by simpa using ha)]
          simp only [List.length_cons]; omega
    omega
theorem WIn.len {N : Nat} {l : List Nd} (h : WIn N l) : l.length ≤ N := by rw [← bks_len]; exact nodup_len N _ h.nodup h.rng
theorem WIn.add {N : Nat} {l : List Nd} (h : WIn N l) {b : Int} (hb : 0 ≤ b ∧ b < N) (hn : b ∉ bks l) (f : Int × Int) : WIn N (l ++ [(b, f)]) := by
  constructor
  · rw [bks_app]
    exact List.nodup_append.2 ⟨h.nodup, by simp, fun a ha c hc => by
      simp only [List.mem_singleton] at hc
      subst hc; intro e; subst e; exact hn ha⟩
  · intro x hx
    rw [bks_app] at hx
    rcases List.mem_append.1 hx with hx | hx
    · exact h.rng x hx
    · simp only [List.mem_singleton] at hx; subst hx; exact hb
theorem WIn.full {N : Nat} {l : List Nd} (h : WIn N l) (hl : N ≤ l.length) {b : Int} (hb : 0 ≤ b ∧ b < N) : b ∈ bks l := by
  apply Classical.byContradiction
  intro hn
  have := (h.add hb hn (0, 0)).len
  rw [List.length_append, List.length_singleton] at this
  omega
theorem WIn.exp {N : Nat} {o : Int → Nat → Int} (ht : Tab N o) {cap b : Int} (hb : 0 ≤ b ∧ b < N) {k : Nat} {l : List Nd} (h : WIn N l) : WIn N (wexp cap o b k l) :=
  wexp_keeps (P := WIn N) cap o b k (fun l hl s hs _ hn => hl.add (ht.o_in b s hb.1 hb.2 hs) hn _) l h
structure WSh (N : Nat) (o : Int → Nat → Int) (fr : Int → Int) (a b : Int) (p : Nat) (l : List Nd) : Prop where
  win : WIn N l
  ahead : Ahead l
  root : ∀ i, i < l.length → (nd l i).2.1 = -1 → (nd l i).1 = a ∨ (nd l i).1 = b
  ab : a ∈ bks l ∧ b ∈ bks l
  edge : ∀ i, i < l.length → (nd l i).2.1 ≠ -1 → ∃ s : Nat, s < 4 ∧ (nd l i).2.2 = s ∧ o (nd l (nd l i).2.1.toNat).1 s = (nd l i).1 ∧ (nd l i).2.1.toNat < p
  full : ∀ i, i < p → ¬ 0 ≤ fr (nd l i).1
  shut : ∀ i, i < p → ∀ s, s < 4 → o (nd l i).1 s ∈ bks l
  le : p ≤ l.length
theorem wexp_has {N : Nat} {o : Int → Nat → Int} (ht : Tab N o) {cap b : Int} (hc : (N : Int) ≤ cap) (hb : 0 ≤ b ∧ b < N) {k : Nat} {l : List Nd} (h : WIn N l) : ∀ s, s < 4 → o b s ∈ bks (wexp cap o b k l) := by
  have one : ∀ l s, s < 4 → WIn N l → o b s ∈ bks (wadd cap (o b s) ((k : Int), ((s : Nat) : Int)) l) ∧ WIn N (wadd cap (o b s) ((k : Int), ((s : Nat) : Int)) l) := fun l s hs hl => by
    have hi := ht.o_in b s hb.1 hb.2 hs
    unfold wadd
    by_cases hm : o b s ∈ bks l
    · rw [if_neg (fun c => c.2 hm)]; exact ⟨hm, hl⟩
    · have hlen : l.length < N := by
        apply Classical.byContradiction
        intro c; exact hm (hl.full (by omega) hi)
      rw [if_pos ⟨by omega, hm⟩]; exact ⟨by rw [bks_app]; simp, hl.add hi hm _⟩
  obtain ⟨a0, b0⟩ := one l 0 (by omega) h
  obtain ⟨a1, b1⟩ := one _ 1 (by omega) b0
  obtain ⟨a2, b2⟩ := one _ 2 (by omega) b1
  obtain ⟨a3, b3⟩ := one _ 3 (by omega) b2
  have up : ∀ l s, bks l <+: bks (wadd cap (o b s) ((k : Int), ((s : Nat) : Int)) l) := fun l s => bks_pre (wadd_pre _ _ _ _)
  intro s hs
  rcases (show s = 0 ∨ s = 1 ∨ s = 2 ∨ s = 3 by omega) with rfl | rfl | rfl | rfl
  · exact (up _ 3).subset ((up _ 2).subset ((up _ 1).subset a0))
  · exact (up _ 3).subset ((up _ 2).subset a1)
  · exact (up _ 3).subset a2
  · exact a3
theorem wexp_new (cap : Int) (o : Int → Nat → Int) (b : Int) (k : Nat) (l : List Nd) : ∀ i, l.length ≤ i → i < (wexp cap o b k l).length → ∃ s : Nat, s < 4 ∧ nd (wexp cap o b k l) i = (o b s, ((k : Int), (s : Int))) := by
  have key := wexp_keeps (P := fun m => l <+: m ∧ ∀ i, l.length ≤ i → i < m.length → ∃ s : Nat, s < 4 ∧ nd m i = (o b s, ((k : Int), (s : Int)))) cap o b k (fun m hm s hs _ _ => ⟨hm.1.trans (List.prefix_append _ _), fun i h1 h2 => by
    rw [List.length_append, List.length_singleton] at h2
    by_cases hi : i < m.length
    · rw [nd_app_left hi]; exact hm.2 i h1 hi
    · obtain rfl : i = m.length := by omega
      rw [nd_last]; exact ⟨s, hs, rfl⟩⟩) l ⟨List.prefix_refl _, fun i h1 h2 => by omega⟩
  exact key.2
theorem WSh.exp {N : Nat} {o : Int → Nat → Int} {fr : Int → Int} {a b : Int} {p : Nat} {l : List Nd} (ht : Tab N o) {cap : Int} (hc : (N : Int) ≤ cap) (h : WSh N o fr a b p l) (hp : p < l.length) (hf : ¬ 0 ≤ fr (nd l p).1) : WSh N o fr a b (p + 1) (wexp cap o (nd l p).1 p l) := by
  have hb := h.win.rng _ (nd_mem hp)
  have hpre := wexp_pre cap o (nd l p).1 p l
  have hle := hpre.length_le
  have hnew := wexp_new cap o (nd l p).1 p l
  have hup := bks_pre hpre
  have hhas := wexp_has ht hc hb (k := p) h.win
  refine ⟨h.win.exp ht hb, ahead_exp cap o _ p h.ahead hp, fun i hi e => ?_, ⟨hup.subset h.ab.1, hup.subset h.ab.2⟩, fun i hi e => ?_, fun i hi => ?_, fun i hi s hs => ?_, by omega⟩
  · by_cases hil : i < l.length
    · rw [nd_pre hpre hil] at e ⊢; exact h.root i hil e
    · obtain ⟨s, _, hs⟩ := hnew i (by omega) hi
      rw [hs] at e; simp only at e; omega
  · by_cases hil : i < l.length
    · rw [nd_pre hpre hil] at e ⊢
      obtain ⟨s, h1, h2, h3, h4⟩ := h.edge i hil e
      exact ⟨s, h1, h2, by rw [nd_pre hpre (by have := h.le; omega)]; exact h3, by omega⟩
    · obtain ⟨s, hs4, hs⟩ := hnew i (by omega) hi
      rw [hs]
      exact ⟨s, hs4, rfl, by simp only [Int.toNat_natCast]; rw [nd_pre hpre hp], by simp⟩
  · by_cases hip : i < p
    · rw [nd_pre hpre (by omega)]; exact h.full i hip
    · obtain rfl : i = p := by omega
      rw [nd_pre hpre hp]; exact hf
  · by_cases hip : i < p
    · rw [nd_pre hpre (by omega)]; exact hup.subset (h.shut i hip s hs)
    · obtain rfl : i = p := by omega
      rw [nd_pre hpre hp]; exact hhas s hs
end Go.Proofs.YtmakjfeepmiggaaGreat
namespace Go.Proofs.YtmakjfeepmiggaaGreat
open Go.RowKit Go.Maps
set_option linter.unusedVariables false
def kF (a : Int) : Lit := .int .i64 a
theorem kF_key (a : Int) : WideAt.IsKeyLit (kF a) := trivial
def prD (p : Int × Int) : DataW Unit := .agg [.lit (.int .i64 p.1), .lit (.int .i64 p.2)]
def prV (p : Int × Int) : Value := .agg #[.int .i64 p.1, .int .i64 p.2]
def prR (v : Value) : Option (DataW Unit × List MemPlace) :=
  match v with
  | .agg ⟨[.int .i64 a, .int .i64 b]⟩ => some (prD (a, b), [])
  | _ => none
theorem prR_mk (p : Int × Int) : prR (prV p) = some (prD p, []) := rfl
theorem prR_inv {v : Value} {z : DataW Unit × List MemPlace} (h : prR v = some z) : ∃ p, v = prV p ∧ z = (prD p, []) := by
  unfold prR at h
  split at h
  · rename_i a b
    cases h
    exact ⟨(a, b), rfl, rfl⟩
  · cases h
theorem prD_inj {p q : Int × Int} (h : prD p = prD q) : p = q := by
  obtain ⟨a, b⟩ := p
  obtain ⟨c, d⟩ := q
  simpa [prD] using h
theorem zero_from (w : World) : (zeroValue 139).run Tryz.prog w = .ok (prV (0, 0)) w := by kernel_rfl
theorem int_keyedF : Keyed Tryz.prog 3 := int_keyed Tryz.underlying3
def MapF (w : World) (m n : Nat) (f : Int → Option (Int × Int)) : Prop :=
  ∃ D, w.ownsMap Tryz.prog 3 prR m n D ∧ (∀ a p, f a = some p → D.atKey (kF a) (prD (0, 0)) = prD p) ∧ ∀ a, Maps.has D (kF a) = (f a).isSome
theorem MapF.lt {w : World} {m n : Nat} {f : Int → Option (Int × Int)} (h : MapF w m n f) : m < w.heap.size := by obtain ⟨D, h, _⟩ := h; exact h.lt
theorem MapF.keep {w w' : World} {m n : Nat} {f : Int → Option (Int × Int)} (h : MapF w m n f) (hk : w'.heap[m]? = w.heap[m]?) : MapF w' m n f := by
  obtain ⟨D, ⟨es, clock, hb, r⟩, hf⟩ := h
  exact ⟨D, ⟨es, clock, hk.trans hb, r⟩, hf⟩
theorem MapF.below {w w' : World} {m n : Nat} {f : Int → Option (Int × Int)} (h : MapF w m n f) (hb : Below w.heap.size w w') : MapF w' m n f := h.keep (hb.block _ h.lt)
theorem MapF.mono {w : World} {m n n' : Nat} {f : Int → Option (Int × Int)} (h : MapF w m n f) (hn : n ≤ n') : MapF w m n' f := by
  obtain ⟨D, h, hf⟩ := h
  exact ⟨D, h.mono hn, hf⟩
theorem MapF.made (w : World) : MapF (w.alloc (.map #[] 0)) w.heap.size 0 fun _ => none :=
  ⟨.map [], World.ownsMap_made w _ _ _, fun a p h => (by cases h), fun a => rfl⟩
theorem MapF.blk {w : World} {m n : Nat} {f : Int → Option (Int × Int)} (h : MapF w m n f) : ∃ es cl, w.heap[m]? = some (.map es cl) := by
  obtain ⟨D, ⟨es, cl, hb, _⟩, _⟩ := h
  exact ⟨es, cl, hb⟩
theorem MapF.look {w : World} {m n : Nat} {f : Int → Option (Int × Int)} (h : MapF w m n f) {a : Int} (ha : (Lit.int .i64 a).wf = true) {p : Int × Int} (hp : f a = some p) :
    (Instr.lookup 133 (.map (some m)) (.int .i64 a) false).run Tryz.prog w = .ok (prV p) w := by
  obtain ⟨D, h, hf, _⟩ := h
  obtain ⟨v, ps, hr, hv⟩ := h.lookup int_keyedF Tryz.underlying133 (zero_from w) (prR_mk (0, 0)) (keyOf_int_mk Tryz.underlying3 ha)
  obtain ⟨o, rfl, ho⟩ := prR_inv hv
  have h1 := congrArg Prod.fst ho
  simp only at h1
  have h2 := (hf a p hp).symm.trans h1
  rw [prD_inj h2]
  exact hr
theorem MapF.is {w : World} {m n : Nat} {f : Int → Option (Int × Int)} (h : MapF w m n f) {a : Int} (ha : (Lit.int .i64 a).wf = true) :
    ∃ p : Int × Int, (Instr.lookup 133 (.map (some m)) (.int .i64 a) true).run Tryz.prog w = .ok (.tuple #[.agg #[.int .i64 p.1, .int .i64 p.2], .bool (f a).isSome]) w := by
  obtain ⟨D, h, _, hh⟩ := h
  obtain ⟨v, ps, hr, hv⟩ := h.look_ok int_keyedF Tryz.underlying133 (zero_from w) (prR_mk (0, 0)) (keyOf_int_mk Tryz.underlying3 ha)
  rw [show Maps.has D (.int .i64 a) = (f a).isSome from hh a] at hr
  obtain ⟨p, rfl, -⟩ := prR_inv hv
  exact ⟨p, hr⟩
theorem MapF.put {w : World} {m n : Nat} {f : Int → Option (Int × Int)} (h : MapF w m n f) {a : Int} (ha : (Lit.int .i64 a).wf = true) (p : Int × Int) (hn : n < maxLen) :
    ∃ w', (Instr.mapUpdate 133 (.map (some m)) (.int .i64 a) (prV p)).run Tryz.prog w = .ok () w' ∧ MapF w' m (n + 1) (upd f a (some p)) ∧ w.grownBy w' (some m) := by
  obtain ⟨D, h, hf, hh⟩ := h
  obtain ⟨w', hr, ho, hg⟩ := h.update int_keyedF Tryz.underlying133 hn (keyOf_int_mk Tryz.underlying3 ha) (prR_mk p)
  refine ⟨w', hr, ⟨_, ho, fun x q hx => ?_, fun x => ?_⟩, hg⟩
  · by_cases e : x = a
    · subst e
      rw [upd_same] at hx
      cases hx
      exact atKey_put_same h.isMap (kF_key x) _ _
    · have hne : kF x ≠ kF a := fun c => e (by simpa [kF] using c)
      rw [upd_other _ e] at hx
      exact (atKey_put_other (D := D) (d := prD p) (z := prD (0, 0)) hne).trans (hf x q hx)
  · by_cases e : x = a
    · subst e
      rw [upd_same]; exact has_put_same h.isMap (kF_key x) _
    · have hne : kF x ≠ kF a := fun c => e (by simpa [kF] using c)
      rw [upd_other _ e]
      have e2 := has_put_other (D := D) (d := prD p) hne
      exact e2.trans (hh x)
theorem wpList_putf {w : World} {ops : Array Oper} {rest : List Oper} {o : Oper} {a : Act} {Q : Exit → Act → World → Prop} (hg : o.guard = none) (m x v : Operand) (hop : o.op = Op.mapUpdate 133 m x v)
    (b n : Nat) (f : Int → Option (Int × Int)) (hm : a.eval m = .map (some b)) (hM : MapF w b n f) (hn : n < maxLen) (k : Int) (p : Int × Int) (hx : a.eval x = .int .i64 k) (hv : a.eval v = .agg #[.int .i64 p.1, .int .i64 p.2]) (hk : (Lit.int .i64 k).wf = true)
    (hC : ∀ w', MapF w' b (n + 1) (upd f k (some p)) → w.grownBy w' (some b) → wpList Tryz.prog ops Q rest (a.put o.dst undef) w') :
    wpList Tryz.prog ops Q (o :: rest) a w := by
  refine wpList_plain hg fun K' hK' => ?_
  obtain ⟨w', hrun, r1, r2⟩ := hM.put hk p hn
  unfold prV at hrun
  unfold Oper.wp
  simp [execOp, hop, hm, hx, hv, hrun, Result.andThen]
  exact hK' _ _ (hC w' r1 r2)
end Go.Proofs.YtmakjfeepmiggaaGreat