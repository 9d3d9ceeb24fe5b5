/-
  What may be read of an argument, whatever its type (integers, bools, strings, structs, arrays, slices of these): a type is a list of leaves, a leaf for each cell.
-/
import Derived.Test.YtmakjfeepmiggaaGreatLib
import Derived.ProofKit
namespace Go.Proofs.YtmakjfeepmiggaaGreat
open Go.RowKit
set_option linter.unusedVariables false

inductive Leaf where
  | int (k : IntKind)
  | bool
  | str
  | sl (e : List Leaf)

mutual
/-- The cell v is one of this leaf. -/
def Leaf.holds (w : World) : Leaf → Value → Prop
  | .int k, v => ∃ n, v = .int k n ∧ (Lit.int k n).wf = true
  | .bool, v => ∃ b, v = .bool b
  | .str, v => ∃ s : ByteArray, v = .string s ∧ s.size ≤ maxLen
  | .sl e, v => ∃ a len cap, v = .slice a len cap ∧ len ≤ cap ∧ cap ≤ maxLen ∧ (a = none → cap = 0) ∧
      (len = 0 ∨ ∃ b off, a = some ⟨b, off, none⟩ ∧ ∀ i, i < len → ∃ cs : List Value, cs.length = Leaf.many e ∧ (∀ j, j < cs.length → w.cell? ⟨b, off + (i * Leaf.many e + j), none⟩ = cs[j]?) ∧ Leaf.allHold w e cs)
def Leaf.allHold (w : World) : List Leaf → List Value → Prop
  | [], [] => True
  | s :: ss, v :: vs => Leaf.holds w s v ∧ Leaf.allHold w ss vs
  | _, _ => False
def Leaf.many : List Leaf → Nat
  | [] => 0
  | _ :: r => Leaf.many r + 1
end
theorem Leaf.many_len (e : List Leaf) : Leaf.many e = e.length := by
  induction e with
  | nil => rfl
  | cons s e ih => simp [Leaf.many, ih]
theorem allHold_len (w : World) : ∀ (ss : List Leaf) (cs : List Value), Leaf.allHold w ss cs → cs.length = ss.length
  | [], [], _ => rfl
  | [], _ :: _, h => h.elim
  | _ :: _, [], h => h.elim
  | _ :: ss, _ :: cs, h => by simp [allHold_len w ss cs h.2]
theorem allHold_append (w : World) : ∀ (ss ts : List Leaf) (cs ds : List Value), Leaf.allHold w ss cs → Leaf.allHold w ts ds → Leaf.allHold w (ss ++ ts) (cs ++ ds)
  | [], _, [], _, _, h => h
  | [], _, _ :: _, _, h, _ => h.elim
  | _ :: _, _, [], _, h, _ => h.elim
  | _ :: ss, ts, _ :: cs, ds, h, h' => ⟨h.1, allHold_append w ss ts cs ds h.2 h'⟩

/-- The leaves of a struct's fields, if they lie one behind the other. -/
def leavesF (P : Program) (rec : TypeId → Option (List Leaf)) : List Field → Nat → Option (List Leaf)
  | [], _ => some []
  | f :: fs, o => match rec f.type, leavesF P rec fs (o + P.cellsOf f.type) with
    | some a, some b => if f.offset = o ∧ P.cellsOf f.type = a.length then some (a ++ b) else none
    | _, _ => none
def leavesN (a : List Leaf) : Nat → List Leaf
  | 0 => []
  | n + 1 => a ++ leavesN a n
/-- The leaves of a type. -/
def leaves (P : Program) : Nat → TypeId → Option (List Leaf)
  | 0, _ => none
  | n + 1, t => match P.underlying t with
    | some .bool => some [.bool]
    | some (.int k) => some [.int k]
    | some .string => some [.str]
    | some (.slice e) => match leaves P n e with
      | some l => if P.cellsOf e = l.length ∧ l ≠ [] then some [.sl l] else none
      | none => none
    | some (.struct fs) => match leavesF P (leaves P n) fs.toList 0 with
      | some l => if P.cellsOf t = l.length then some l else none
      | none => none
    | some (.array m e) => match leaves P n e with
      | some l => if P.cellsOf e = l.length ∧ P.cellsOf t = m * l.length then some (leavesN l m) else none
      | none => none
    | _ => none

theorem mapM_get {β : Type} {f : Nat → Option β} {n : Nat} {r : List β} (h : (List.range n).mapM f = some r) (i : Nat) (hi : i < n) : ∃ y, f i = some y := by
  have h1 := mapM_some_get h i i (by simp [hi])
  have h2 := mapM_some_length h
  simp at h2
  rw [List.getElem?_eq_getElem (by omega)] at h1
  exact ⟨_, h1⟩
theorem take_drop_split {α : Type} (cs : List α) (o n m : Nat) (h : cs.length = o + (n + m)) : (cs.drop o).take (n + m) = (cs.drop o).take n ++ (cs.drop (o + n)).take m := by
  rw [List.take_add, List.drop_drop]

section
variable {H : Type} {enc : TypeId × Value → H} {P : Program} {w : World} {base : Nat} {spare : Nat → Bool} {held : Bool}

theorem holdF (n : Nat) (IH : ∀ (m : Nat) (t : TypeId) (cs : List Value) (x : DataW H × List MemPlace) (l : List Leaf), leaves P n t = some l → DataW.trod enc P w base spare held m t cs = some x → Leaf.allHold w l cs)
    (m : Nat) (cs : List Value) : ∀ (fs : List Field) (o : Nat) (l : List Leaf) (xs : List (DataW H × List MemPlace)), leavesF P (leaves P n) fs o = some l →
      fs.mapM (fun f => DataW.trod enc P w base spare held m f.type ((cs.drop f.offset).take (P.cellsOf f.type))) = some xs → cs.length = o + l.length → Leaf.allHold w l (cs.drop o)
  | [], o, l, xs, h1, _, hl => by
    simp only [leavesF, Option.some.injEq] at h1
    subst h1
    rw [List.drop_eq_nil_of_le (by simp at hl; omega)]
    exact trivial
  | f :: fs, o, l, xs, h1, h2, hl => by
    simp only [leavesF] at h1
    cases ha : leaves P n f.type with
    | none => simp [ha] at h1
    | some a =>
      cases hb : leavesF P (leaves P n) fs (o + P.cellsOf f.type) with
      | none => simp [ha, hb] at h1
      | some b =>
        simp only [ha, hb] at h1
        split at h1
        · rename_i hc
          simp only [Option.some.injEq] at h1
          subst h1
          simp only [List.length_append] at hl
          rw [List.mapM_cons] at h2
          simp only [Option.pure_def, Option.bind_eq_bind] at h2
          cases hx : DataW.trod enc P w base spare held m f.type ((cs.drop f.offset).take (P.cellsOf f.type)) with
          | none => simp [hx] at h2
          | some x =>
            simp only [hx, Option.bind_some] at h2
            cases hy : fs.mapM (fun f => DataW.trod enc P w base spare held m f.type ((cs.drop f.offset).take (P.cellsOf f.type))) with
            | none => simp [hy] at h2
            | some ys =>
              have i1 := IH m f.type _ x a ha hx
              have i2 := holdF n IH m cs fs (o + P.cellsOf f.type) b ys hb hy (by omega)
              rw [hc.1, hc.2] at i1
              rw [hc.2] at i2
              have e : cs.drop o = (cs.drop o).take a.length ++ cs.drop (o + a.length) := by
                rw [← List.drop_drop, List.take_append_drop]
              rw [e]
              exact allHold_append w _ _ _ _ i1 i2
        · cases h1
theorem holdN (n : Nat) (e : TypeId) (l : List Leaf) (IH : ∀ (m : Nat) (cs : List Value) (x : DataW H × List MemPlace), DataW.trod enc P w base spare held m e cs = some x → Leaf.allHold w l cs)
    (m : Nat) (cs : List Value) (hc : P.cellsOf e = l.length) (k : Nat) :
    (∀ i, i < k → ∃ x, DataW.trod enc P w base spare held m e ((cs.drop (i * P.cellsOf e)).take (P.cellsOf e)) = some x) → cs.length = k * l.length → Leaf.allHold w (leavesN l k) cs := by
  have key : ∀ (j : Nat), j ≤ k → (∀ i, i < k → ∃ x, DataW.trod enc P w base spare held m e ((cs.drop (i * P.cellsOf e)).take (P.cellsOf e)) = some x) → cs.length = k * l.length →
      Leaf.allHold w (leavesN l j) (cs.drop ((k - j) * l.length)) := by
    intro j
    induction j with
    | zero => intro _ _ hl; rw [Nat.sub_zero, List.drop_eq_nil_of_le (by omega)]; exact trivial
    | succ j ih =>
      intro hj h hl
      have i2 := ih (by omega) h hl
      obtain ⟨x, hx⟩ := h (k - (j + 1)) (by omega)
      have i1 := IH m _ x hx
      rw [hc] at i1
      have e1 : (k - j) * l.length = (k - (j + 1)) * l.length + l.length := by
        rw [show k - j = (k - (j + 1)) + 1 by omega, Nat.add_mul, Nat.one_mul]
      rw [e1] at i2
      have e : cs.drop ((k - (j + 1)) * l.length) = (cs.drop ((k - (j + 1)) * l.length)).take l.length ++ cs.drop ((k - (j + 1)) * l.length + l.length) := by
        rw [← List.drop_drop, List.take_append_drop]
      rw [e]
      exact allHold_append w _ _ _ _ i1 i2
  intro h hl
  have := key k (Nat.le_refl _) h hl
  simpa using this

/-- An argument that was read is of its type's leaves. -/
theorem holds_of_trod : ∀ (n m : Nat) (t : TypeId) (cs : List Value) (x : DataW H × List MemPlace) (l : List Leaf), leaves P n t = some l → DataW.trod enc P w base spare held m t cs = some x → Leaf.allHold w l cs
  | 0, _, _, _, _, _, h, _ => by simp [leaves] at h
  | n + 1, 0, _, _, _, _, _, h => by simp [DataW.trod] at h
  | n + 1, m + 1, t, cs, x, l, h1, h2 => by
    have IH := holds_of_trod n
    unfold leaves at h1
    unfold DataW.trod at h2
    split at h1
    · rename_i hu
      simp only [Option.some.injEq] at h1; subst h1
      rw [hu] at h2
      split at h2 <;> simp_all [Leaf.allHold, Leaf.holds]
    · rename_i k hu
      simp only [Option.some.injEq] at h1; subst h1
      rw [hu] at h2
      split at h2 <;> simp_all [Leaf.allHold, Leaf.holds]
    · rename_i hu
      simp only [Option.some.injEq] at h1; subst h1
      rw [hu] at h2
      split at h2 <;> simp_all [Leaf.allHold, Leaf.holds]
    · rename_i e hu
      cases hl : leaves P n e with
      | none => simp [hl] at h1
      | some le =>
        simp only [hl] at h1
        split at h1
        · rename_i hc
          simp only [Option.some.injEq] at h1; subst h1
          rw [hu] at h2
          split at h2
          case h_7 =>
            simp only [Leaf.allHold, Leaf.holds, and_true]
            exact ⟨none, 0, 0, rfl, Nat.le_refl _, Nat.zero_le _, fun _ => rfl, .inl rfl⟩
          case h_8 =>
            rename_i e' a len cap h3
            cases h3
            simp only at h2
            split at h2
            · rename_i hb
              simp only [Leaf.allHold, Leaf.holds, and_true]
              refine ⟨some a, len, cap, rfl, hb.2.1, hb.2.2, (fun h => by cases h), ?_⟩
              by_cases h0 : len = 0
              · exact .inl h0
              · refine .inr ?_
                cases hm : (List.range len).mapM (fun i => (w.cells? base (a.add (i * P.cellsOf e)) (P.cellsOf e)).bind (DataW.trod enc P w base spare held m e)) with
                | none => rw [hm] at h2; simp at h2
                | some elems =>
                  have hget := fun i hi => mapM_get hm i hi
                  have each : ∀ i, i < len → ∃ cs, w.cells? base (a.add (i * P.cellsOf e)) (P.cellsOf e) = some cs ∧ Leaf.allHold w le cs := by
                    intro i hi
                    obtain ⟨y, hy⟩ := hget i hi
                    cases hcs : w.cells? base (a.add (i * P.cellsOf e)) (P.cellsOf e) with
                    | none => rw [hcs] at hy; simp at hy
                    | some cs => rw [hcs] at hy; exact ⟨cs, rfl, IH _ _ _ _ _ hl hy⟩
                  obtain ⟨c0, hc0, _⟩ := each 0 (by omega)
                  have hpos : 0 < P.cellsOf e := by rw [hc.1]; exact List.length_pos_iff.2 hc.2
                  have h00 := (World.cells?_some hc0).2.2 0 hpos
                  have hl0 := (World.cells?_some hc0).2.1
                  rw [List.getElem?_eq_getElem (by omega)] at h00
                  have hspot : a.spot = none := by
                    have := World.cell?_spot h00
                    simpa [Addr.add] using this
                  obtain ⟨b, off, spot⟩ := a
                  simp only at hspot
                  subst hspot
                  refine ⟨b, off, rfl, fun i hi => ?_⟩
                  obtain ⟨cs, h5, h6⟩ := each i hi
                  obtain ⟨_, h7, h8⟩ := World.cells?_some h5
                  refine ⟨cs, by rw [h7, hc.1, Leaf.many_len], fun j hj => ?_, h6⟩
                  have h9 := h8 j (by omega)
                  rw [Leaf.many_len, ← hc.1, ← h9]
                  congr 1
                  unfold Addr.add
                  split <;> split <;> simp_all <;> omega
            · cases h2
          all_goals (exfalso; simp_all; done)
        · cases h1
    · rename_i fs hu
      cases hl : leavesF P (leaves P n) fs.toList 0 with
      | none => simp [hl] at h1
      | some l' =>
        simp only [hl] at h1
        split at h1
        · rename_i hc
          simp only [Option.some.injEq] at h1; subst h1
          rw [hu] at h2
          simp only at h2
          split at h2
          · rename_i hcl
            cases hm : fs.toList.mapM (fun f => DataW.trod enc P w base spare held m f.type ((cs.drop f.offset).take (P.cellsOf f.type))) with
            | none => rw [hm] at h2; simp at h2
            | some ys => simpa using holdF n IH m cs fs.toList 0 l' ys hl hm (by omega)
          · cases h2
        · cases h1
    · rename_i k e hu
      cases hl : leaves P n e with
      | none => simp [hl] at h1
      | some le =>
        simp only [hl] at h1
        split at h1
        · rename_i hc
          simp only [Option.some.injEq] at h1; subst h1
          rw [hu] at h2
          simp only at h2
          split at h2
          · rename_i hcl
            cases hm : (List.range k).mapM (fun i => DataW.trod enc P w base spare held m e ((cs.drop (i * P.cellsOf e)).take (P.cellsOf e))) with
            | none => rw [hm] at h2; simp at h2
            | some ys => exact holdN n e le (fun m cs x h => IH m e cs x le hl h) m cs hc.1 k (fun i hi => mapM_get hm i hi) (by omega)
          · cases h2
        · cases h1
    · cases h1
end
theorem okWide_array {P : Program} {w : World} {r : Reach} {base : Nat} {t n e : TypeId} {v : Value} (ht : P.underlying t = some (.array n e)) (h : Value.okWide P w r base t v) : ∃ cs : Array Value, v = .agg cs := by
  simp only [Value.okWide, ht] at h
  obtain ⟨cs, h1, _⟩ := h
  exact ⟨cs, h1⟩
theorem list_of {α : Type} (p : Nat → α → Prop) : ∀ (n : Nat), (∀ i, i < n → ∃ x, p i x) → ∃ l : List α, l.length = n ∧ ∀ i, (hi : i < l.length) → p i l[i]
  | 0, _ => ⟨[], rfl, fun i hi => by simp at hi⟩
  | n + 1, h => by
    obtain ⟨l, h1, h2⟩ := list_of p n (fun i hi => h i (by omega))
    obtain ⟨x, hx⟩ := h n (by omega)
    refine ⟨l ++ [x], by simp [h1], fun i hi => ?_⟩
    simp only [List.length_append, List.length_singleton] at hi
    by_cases hn : i < l.length
    · rw [List.getElem_append_left hn]; exact h2 i hn
    · have e : i = l.length := by omega
      subst e
      simpa [h1] using hx

theorem opened {H : Type} {enc : TypeId × Value → H} {w : World} {base n : Nat} {spare : Nat → Bool} {held : Bool} {t : TypeId} {v : Value} {d : DataW H} {p : List MemPlace} {l : List Leaf} (hl : leaves Tryz.prog n t = some l)
    (k : DataW.Trod enc Tryz.prog w base spare held t v d p) : Leaf.allHold w l v.cells.toList := by
  obtain ⟨m, hm⟩ := k
  exact holds_of_trod n m t _ _ l hl hm

theorem allHold_cons {w : World} {s : Leaf} {ss : List Leaf} {cs : List Value} (h : Leaf.allHold w (s :: ss) cs) : ∃ c r, cs = c :: r ∧ Leaf.holds w s c ∧ Leaf.allHold w ss r := by
  cases cs with
  | nil => exact h.elim
  | cons c r => exact ⟨c, r, rfl, h.1, h.2⟩
theorem allHold_nil {w : World} {cs : List Value} (h : Leaf.allHold w [] cs) : cs = [] := by
  cases cs with
  | nil => rfl
  | cons c r => exact h.elim
theorem holds_int {w : World} {k : IntKind} {v : Value} (h : Leaf.holds w (.int k) v) : ∃ n, v = .int k n ∧ (Lit.int k n).wf = true := by simpa only [Leaf.holds] using h
theorem holds_str {w : World} {v : Value} (h : Leaf.holds w .str v) : ∃ s : ByteArray, v = .string s ∧ s.size ≤ maxLen := by simpa only [Leaf.holds] using h
theorem holds_bool {w : World} {v : Value} (h : Leaf.holds w .bool v) : ∃ b, v = .bool b := by simpa only [Leaf.holds] using h
/-- A list of records that may be read; a record: its cells. -/
def Recs (w : World) (e : List Leaf) (v : Value) (l : List (List Value)) : Prop :=
  ∃ a cap, v = .slice a l.length cap ∧ l.length ≤ cap ∧ cap ≤ maxLen ∧ (a = none → cap = 0) ∧ (∀ x ∈ l, Leaf.allHold w e x) ∧
    (l = [] ∨ ∃ b off, a = some ⟨b, off, none⟩ ∧ ∀ i, (hi : i < l.length) → ∀ j, j < e.length → w.cell? ⟨b, off + (i * e.length + j), none⟩ = (l[i])[j]?)
theorem recs_of {w : World} {e : List Leaf} {v : Value} (h : Leaf.holds w (.sl e) v) : ∃ l, Recs w e v l := by
  simp only [Leaf.holds, Leaf.many_len] at h
  obtain ⟨a, len, cap, rfl, h1, h2, h3, h4⟩ := h
  rcases h4 with rfl | ⟨b, off, rfl, h5⟩
  · exact ⟨[], a, cap, rfl, h1, h2, h3, by simp, .inl rfl⟩
  · obtain ⟨l, hl, hp⟩ := list_of (fun i (x : List Value) => Leaf.allHold w e x ∧ ∀ j, j < e.length → w.cell? ⟨b, off + (i * e.length + j), none⟩ = x[j]?) len (fun i hi => by
      obtain ⟨cs, c1, c2, c3⟩ := h5 i hi
      exact ⟨cs, c3, fun j hj => c2 j (by omega)⟩)
    subst hl
    refine ⟨l, _, cap, rfl, h1, h2, h3, fun x hx => ?_, .inr ⟨b, off, rfl, fun i hi => (hp i hi).2⟩⟩
    obtain ⟨i, hi, rfl⟩ := List.mem_iff_getElem.1 hx
    exact (hp i hi).1
end Go.Proofs.YtmakjfeepmiggaaGreat
