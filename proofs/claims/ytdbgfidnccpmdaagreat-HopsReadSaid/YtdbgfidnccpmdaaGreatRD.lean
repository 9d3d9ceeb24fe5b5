/-
  Texts of this prover, merged: ReadsLaw, ReadsDo, HopsRead.
-/
import Derived.Test.YtdbgfidnccpmdaaGreatRC
import Derived.Test.YtdbgfidnccpmdaaGreatRB
import Derived.Test.YtdbgfidnccpmdaaGreatRA
/-
  What a reader sees beside hops: the plain law.
-/
namespace Go.Proofs.YtdbgfidnccpmdaaGreat
open Go.RowKit Go.Maps TagPure
set_option linter.unusedVariables false

/-! ## Hops, seen from beside. -/
theorem hp_next_val (s : CS) (x : HP) : (∃ d r, x.l = d :: r ∧ (x.next s).1 = (d.step s).1) ∨ (x.l = [] ∧ (x.next s).1.val = s.val ∧ s.cnt ≤ (x.next s).1.cnt) := by
  have e : ∀ a, (s.acc 1 a (s.val a)).val = s.val := fun a => upd_me s.val a
  unfold HP.next
  split
  · rename_i d r h; exact .inl ⟨d, r, h, rfl⟩
  · rename_i h
    refine .inr ⟨h, ?_⟩
    split
    · split
      · exact ⟨e _, Nat.le_succ _⟩
      · exact ⟨e _, Nat.le_succ _⟩
    · exact ⟨rfl, Nat.le_refl _⟩
theorem SIn.pok {b u k : Int} (h : SIn b u k) : POk12L (b, u) := ⟨⟨h.b1, by have := h.b3; show b ≤ 12; omega⟩, h.u0, h.u1⟩
section
variable {W : List (Int × Int × Int)} {j : Nat} {b u k u' k' t r : Int} {vs : List Int} {v0 : Int → Int} (H : HopOk W j b u k u' k' t r vs v0)
include H
theorem HI.since {s : CS} {x : HP} {n : Nat} (h : HI W j b u k u' k' t r vs v0 s x n) (hb : VBd s) (hc : s.cnt < 900000) : Since s.val (x.next s).1.val ∧ VBd (x.next s).1 := by
  have hv1 := H.pi.ver; have hv2 := H.qi.ver
  have hm := H.mem
  have hpA := H.pi.tags; have hpI := H.pi.item; have hqA := H.qi.tags; have hqI := H.qi.item
  have hz := H.pi.size; have hu0 := H.pi.u0; have hk0 := H.pi.k0; have hv0 := H.qi.u0; have hw0 := H.qi.k0
  have o1 : bump vs v0 (ver b u) % 2 = 1 := bump_odd hm.1 (H.ev _ hv1.1 hv1.2) (H.bd _)
  have o2 : bump vs v0 (ver b u') % 2 = 1 := bump_odd hm.2 (H.ev _ hv2.1 hv2.2) (H.bd _)
  have far : ∀ {v : Int → Int} {a g : Int} (w : Int), a < 128 → 4096 ≤ g → upd v g w a = v a := fun w h1 h2 => upd_other _ (by omega) w
  have nil_ : x.l = [] → Since s.val (x.next s).1.val ∧ VBd (x.next s).1 := fun hl => by
    rcases hp_next_val s x with ⟨d, r, e, -⟩ | ⟨-, e, e2⟩
    · rw [hl] at e; cases e
    · refine ⟨by rw [e]; exact Since.refl _, fun a h1 h2 => ?_⟩
      rw [e]; have := hb a h1 h2; omega
  have mk_ : ∀ y ys r, x.l = .mark (y :: ys) :: r → 64 ≤ y ∧ y < 128 → Since s.val (x.next s).1.val ∧ VBd (x.next s).1 := fun y ys r hl hy => by
    rcases hp_next_val s x with ⟨d, r', e, e2⟩ | ⟨e, -⟩
    · rw [hl] at e
      obtain ⟨rfl, -⟩ := List.cons.inj e
      rw [e2]
      have := mark_bd hb hy hc
      exact ⟨this.2, this.1⟩
    · rw [hl] at e; cases e
  have do_ : ∀ d r, x.l = d :: r → DGo d → ∀ a0, DLk a0 d → s.val a0 % 2 = 1 → Since s.val (x.next s).1.val ∧ VBd (x.next s).1 := fun d r hl hd a0 hk ho => by
    rcases hp_next_val s x with ⟨d', r', e, e2⟩ | ⟨e, -⟩
    · rw [hl] at e
      obtain ⟨rfl, -⟩ := List.cons.inj e
      rw [e2]
      exact ⟨dgo_since hd s hk ho, dgo_bd hd s hb⟩
    · rw [hl] at e; cases e
  have sp : ∀ x0 ln, SLk (ver b u) ⟨tagsA b u, itemA b u k, k, x0, ln⟩ := fun x0 ln => ⟨(b, u), k, H.pi.pok, rfl, H.pi.k0, H.pi.k1, rfl, rfl⟩
  have sq : ∀ x0 ln, SLk (ver b u') ⟨tagsA b u', itemA b u' k', k', x0, ln⟩ := fun x0 ln => ⟨(b, u'), k', H.qi.pok, rfl, H.qi.k0, H.qi.k1, rfl, rfl⟩
  have gp : ∀ x0 ln, (ln = 0 ∨ ln = 1 ∨ ln = 2) → SGo ⟨tagsA b u, itemA b u k, k, x0, ln⟩ := fun x0 ln h => ⟨by show 128 ≤ tagsA b u; omega, by show 128 ≤ itemA b u k; omega, h⟩
  have gq : ∀ x0 ln, (ln = 0 ∨ ln = 1 ∨ ln = 2) → SGo ⟨tagsA b u', itemA b u' k', k', x0, ln⟩ := fun x0 ln h => ⟨by show 128 ≤ tagsA b u'; omega, by show 128 ≤ itemA b u' k'; omega, h⟩
  cases h with
  | a tg hs => exact nil_ rfl
  | b hs => exact nil_ rfl
  | m1 ys x xs he hs => exact mk_ _ _ _ rfl (H.low x (by rw [he]; simp))
  | o0 hs => exact do_ _ _ rfl (gp _ _ (.inl rfl)) _ (sp _ _) (by rw [hs]; exact o1)
  | o1 hs => exact do_ _ _ rfl (gp _ _ (.inr (.inl rfl))) _ (sp _ _) (by rw [hs]; exact o1)
  | o2 hs => exact do_ _ _ rfl (gp _ _ (.inr (.inr rfl))) _ (sp _ _) (by rw [hs]; unfold hvo; rw [far _ hv1.2 (by omega)]; exact o1)
  | p0 hs => exact do_ _ _ rfl (gq _ _ (.inl rfl)) _ (sq _ _) (by rw [hs]; unfold hopV1; rw [hv1_far H.pi (by omega)]; exact o2)
  | p1 hs => exact do_ _ _ rfl (gq _ _ (.inr (.inl rfl))) _ (sq _ _) (by rw [hs]; unfold hvi hopV1; rw [far _ hv2.2 (by omega), hv1_far H.pi (by omega)]; exact o2)
  | p2 hs => exact do_ _ _ rfl (gq _ _ (.inr (.inr rfl))) _ (sq _ _) (by rw [hs]; unfold hvi hopV1; rw [far _ hv2.2 (by omega), hv1_far H.pi (by omega)]; exact o2)
  | m2 ys x xs he hs => exact mk_ _ _ _ rfl (H.low x (by rw [he]; simp))
/-- A place whose version is even says what it said ahead of the hop, or all say what they say behind it. -/
theorem HI.see {s : CS} {x : HP} {n : Nat} (h : HI W j b u k u' k' t r vs v0 s x n) : (s.val 2 = v0 2 ∧ ∀ a c, SIn b a c → s.val (ver b a) % 2 = 0 → slA s.val b a c = slA v0 b a c) ∨ (s.val 2 = v0 2 ∧ ∀ a c, SIn b a c → slA s.val b a c = slA (bump vs (hopV2 b u k u' k' t r vs v0)) b a c) := by
  have hsf := HI.safe H h
  have hl : ∀ x ∈ vs, x < 128 := fun x hx => (H.low x hx).2
  have n2 : ∀ ys, (∀ x ∈ ys, 64 ≤ x) → bump ys v0 2 = v0 2 := fun ys hy => bump_out _ fun c => by have := hy 2 c; omega
  have hlo : ∀ x ∈ vs, 64 ≤ x := fun x hx => (H.low x hx).1
  have hpA := H.pi.tags; have hpI := H.pi.item; have hqA := H.qi.tags; have hqI := H.qi.item
  have hz := H.pi.size; have hu0 := H.pi.u0; have hk0 := H.pi.k0; have hv0 := H.qi.u0; have hw0 := H.qi.k0
  have far : ∀ {v : Int → Int} {a g : Int} (w : Int), a < 128 → 4096 ≤ g → upd v g w a = v a := fun w h1 h2 => upd_other _ (by omega) w
  have e1 : ∀ a c, SIn b a c → slA (bump vs v0) b a c = slA v0 b a c := fun a c hs => sl_bump _ hl hs
  have eu : ∀ {v : Int → Int} {g y a c : Int}, SIn b a c → g ≠ tagsA b a → g ≠ itemA b a c → slA (upd v g y) b a c = slA v b a c := fun hs g1 g2 => by
    unfold slA; rw [upd_other _ (Ne.symm g1), upd_other _ (Ne.symm g2)]
  have hb0 := H.b0 vs
  have e2 : ∀ a c, SIn b a c → a ≠ u → slA (hopV1 b u k vs v0) b a c = slA v0 b a c := fun a c hs hn => by
    unfold hopV1
    rw [sl_hv1 H.pi (hb0 _).1 hs, if_neg (fun c => hn c.1)]
    exact e1 a c hs
  have ga : ∀ {a c}, SIn b a c → a ≠ u → tagsA b u ≠ tagsA b a ∧ tagsA b u ≠ itemA b a c := fun hs hn => by
    have q1 := hs.tags; have q2 := hs.item; have q3 := hs.k0; have q4 := hs.k1
    omega
  have gb : ∀ {a c}, SIn b a c → a ≠ u' → itemA b u' k' ≠ tagsA b a ∧ itemA b u' k' ≠ itemA b a c := fun hs hn => by
    have q1 := hs.tags; have q2 := hs.item; have q3 := hs.k0; have q4 := hs.k1; have q5 := H.qi.k1
    omega
  have hw1 : hopV1 b u k vs v0 2 = v0 2 := by unfold hopV1; rw [hv1_far H.pi (by omega)]; exact n2 vs hlo
  have hrest : (s.val (ver b u) % 2 = 1 ∧ s.val (ver b u') % 2 = 1 → (s.val 2 = v0 2 ∧ ∀ a c, SIn b a c → s.val (ver b a) % 2 = 0 → slA s.val b a c = slA v0 b a c)) → (s.val 2 = v0 2 ∧ ∀ a c, SIn b a c → s.val (ver b a) % 2 = 0 → slA s.val b a c = slA v0 b a c) ∨ (s.val 2 = v0 2 ∧ ∀ a c, SIn b a c → slA s.val b a c = slA (bump vs (hopV2 b u k u' k' t r vs v0)) b a c) := fun hg => by
    rcases hsf with g | ⟨h1, h2⟩ | h2
    · exact .inl (hg g)
    · exact .inl ⟨h1, fun a c hs _ => h2 a c hs⟩
    · exact .inr h2
  clear hsf
  cases h with
  | a tg hs => left; rw [hs]; exact ⟨rfl, fun _ _ _ _ => rfl⟩
  | b hs => left; rw [hs]; exact ⟨rfl, fun _ _ _ _ => rfl⟩
  | m1 ys x xs he hs =>
    left; rw [hs]
    exact ⟨n2 ys fun x hx => hlo x (by rw [he]; simp [hx]), fun a c h _ => sl_bump _ (fun x hx => hl x (by rw [he]; simp [hx])) h⟩
  | o0 hs => left; rw [hs]; exact ⟨n2 vs hlo, fun a c h _ => e1 a c h⟩
  | o1 hs => left; rw [hs]; exact ⟨n2 vs hlo, fun a c h _ => e1 a c h⟩
  | o2 hs =>
    refine hrest fun ⟨g1, g2⟩ => ⟨by rw [hs]; unfold hvo; rw [far _ (by omega) (by omega)]; exact n2 vs hlo, fun a c h h0 => ?_⟩
    have d1 : a ≠ u := fun e => by subst e; omega
    have d2 : a ≠ u' := fun e => by subst e; omega
    obtain ⟨d3, d4⟩ := ga h d1
    rw [hs]
    unfold hvo
    rw [eu h d3 d4]
    exact e1 a c h
  | p0 hs =>
    refine hrest fun ⟨g1, g2⟩ => ⟨by rw [hs]; exact hw1, fun a c h h0 => ?_⟩
    have d1 : a ≠ u := fun e => by subst e; omega
    have d2 : a ≠ u' := fun e => by subst e; omega
    rw [hs]; exact e2 a c h d1
  | p1 hs =>
    refine hrest fun ⟨g1, g2⟩ => ⟨by rw [hs]; unfold hvi; rw [far _ (by omega) (by omega)]; exact hw1, fun a c h h0 => ?_⟩
    have d1 : a ≠ u := fun e => by subst e; omega
    have d2 : a ≠ u' := fun e => by subst e; omega
    obtain ⟨d3, d4⟩ := gb h d2
    rw [hs]
    unfold hvi
    rw [eu h d3 d4]
    exact e2 a c h d1
  | p2 hs =>
    refine hrest fun ⟨g1, g2⟩ => ⟨by rw [hs]; unfold hvi; rw [far _ (by omega) (by omega)]; exact hw1, fun a c h h0 => ?_⟩
    have d1 : a ≠ u := fun e => by subst e; omega
    have d2 : a ≠ u' := fun e => by subst e; omega
    obtain ⟨d3, d4⟩ := gb h d2
    rw [hs]
    unfold hvi
    rw [eu h d3 d4]
    exact e2 a c h d1
  | m2 ys x xs he hs =>
    refine .inr ⟨?_, fun a c h => ?_⟩
    · rw [hs, bump_out _ (fun c => by have := hlo 2 (by rw [he]; simp [c]); omega), H.far2 (by omega)]
      exact n2 vs hlo
    · rw [hs, sl_bump _ (fun x hx => hl x (by rw [he]; simp [hx])) h, sl_bump _ hl h]
end
section
variable {b : Int} {its : List Itm} {c : Int → Nat} {Wy : List (Int × Int)}
/-- A table whose items stand where they may, each as often as it did. -/
structure Cln (b : Int) (its : List Itm) (c : Int → Nat) (v : Int → Int) : Prop where
  tbl : Tbl b its v
  cnt : ∀ r, r ≠ 0 → cntI v b r = c r
theorem WI.since {s : CS} {x : HP} {n : Nat} (h : WI b its c Wy s x n) (hits : its.length ≤ 999) (hn : 1 ≤ n) (hb : VBd s) (hc : s.cnt < 900000) : Since s.val (x.next s).1.val ∧ VBd (x.next s).1 := by
  rcases h with ⟨h, _⟩ | ⟨j, m, p, q, v, hp, hq, hw, hi, hm, rfl⟩
  · omega
  · exact HI.since (hw.hop hits hp hq) hi hb hc
/-- What a reader may rely on. -/
def See (b : Int) (its : List Itm) (c : Int → Nat) (v : Int → Int) : Prop := ∃ v', Cln b its c v' ∧ v 2 = v' 2 ∧ ∀ u k, SIn b u k → v (ver b u) % 2 = 0 → slA v b u k = slA v' b u k
theorem Cln.see {v : Int → Int} (h : Cln b its c v) : See b its c v := ⟨v, h, rfl, fun _ _ _ _ => rfl⟩
theorem WI.see {s : CS} {x : HP} {n : Nat} (h : WI b its c Wy s x n) (hits : its.length ≤ 999) : See b its c s.val := by
  rcases h with ⟨-, -, -, hw⟩ | ⟨j, m, p, q, v, hp, hq, hw, hi, hm, rfl⟩
  · exact ⟨s.val, ⟨hw.tbl, hw.cnt⟩, rfl, fun _ _ _ _ => rfl⟩
  · rcases HI.see (hw.hop hits hp hq) hi with ⟨h1, h2⟩ | ⟨h1, h2⟩
    · exact ⟨v, ⟨hw.tbl, hw.cnt⟩, h1, h2⟩
    · have hn := hw.next hits hp hq rfl
      exact ⟨_, ⟨hn.tbl, hn.cnt⟩, by rw [h1, hn.tbl.word]; exact hw.tbl.word, fun u k hs _ => h2 u k hs⟩
theorem WI.val {s s' : CS} {x : HP} {n : Nat} (h : WI b its c Wy s x n) (hv : s'.val = s.val) : WI b its c Wy s' x n := by
  rcases h with ⟨h1, h2, h3, hw⟩ | ⟨j, m, p, q, v, hp, hq, hw, hi, hm, rfl⟩
  · exact .inl ⟨h1, h2, h3, by rw [hv]; exact hw⟩
  · refine .inr ⟨j, m, p, q, v, hp, hq, hw, ?_, hm, rfl⟩
    cases hi with
    | a tg hs => exact .a _ tg (hv.trans hs)
    | b hs => exact .b _ (hv.trans hs)
    | m1 ys x xs he hs => exact .m1 _ ys x xs he (hv.trans hs)
    | o0 hs => exact .o0 _ (hv.trans hs)
    | o1 hs => exact .o1 _ (hv.trans hs)
    | o2 hs => exact .o2 _ (hv.trans hs)
    | p0 hs => exact .p0 _ (hv.trans hs)
    | p1 hs => exact .p1 _ (hv.trans hs)
    | p2 hs => exact .p2 _ (hv.trans hs)
    | m2 ys x xs he hs => exact .m2 _ ys x xs he (hv.trans hs)
/-- Hops under way, or over. -/
def HS (b : Int) (its : List Itm) (c : Int → Nat) (Wy : List (Int × Int)) (s : CS) (x : HP) : Prop := (x.left = 0 ∧ Cln b its c s.val) ∨ ∃ n, 1 ≤ n ∧ WI b its c Wy s x n
theorem HS.of {s : CS} {x : HP} {n : Nat} (h : WI b its c Wy s x n) : HS b its c Wy s x := by
  by_cases hn : n = 0
  · subst hn
    rcases h with ⟨-, h2, -, hw⟩ | ⟨j, m, p, q, v, hp, hq, hw, hi, hm, he⟩
    · exact .inl ⟨h2, hw.tbl, hw.cnt⟩
    · omega
  · exact .inr ⟨n, by omega, h⟩
theorem HS.see {s : CS} {x : HP} (h : HS b its c Wy s x) (hits : its.length ≤ 999) : See b its c s.val := by
  rcases h with ⟨-, h⟩ | ⟨n, -, h⟩
  · exact h.see
  · exact h.see hits
theorem HS.val {s s' : CS} {x : HP} (h : HS b its c Wy s x) (hv : s'.val = s.val) : HS b its c Wy s' x := by
  rcases h with ⟨h1, h⟩ | ⟨n, hn, h⟩
  · exact .inl ⟨h1, by rw [hv]; exact h⟩
  · exact .inr ⟨n, hn, h.val hv⟩
theorem HS.step {s : CS} {x : HP} (h : HS b its c Wy s x) (hits : its.length ≤ 999) (hl : x.left ≠ 0) (hb : VBd s) (hc : s.cnt < 900000) : hpgo x = true ∧ x.way = wayH b Wy ∧ Since s.val (x.next s).1.val ∧ VBd (x.next s).1 ∧ HS b its c Wy (x.next s).1 (x.next s).2 := by
  rcases h with ⟨h1, -⟩ | ⟨n, hn, h⟩
  · exact absurd h1 hl
  · obtain ⟨a1, a2, -, -, a5⟩ := h.step hits hn
    have hs := h.since hits hn hb hc
    exact ⟨a1, a2, hs.1, hs.2, HS.of a5⟩
/-! ## What At tells of a table. -/
theorem atP_of {v : Int → Int} {key : ByteArray} {p : Int × Int} {r : Int} {m : Nat} (h : r ∈ atP its v key p m) : ∃ n : Nat, n < m ∧ okA its v key p n = true ∧ r = wrap64 (v (itemA p.1 p.2 n)) := by
  induction m with
  | zero => cases h
  | succ m ih =>
    simp only [atP, List.mem_append] at h
    rcases h with h | h
    · obtain ⟨n, h1, h2, h3⟩ := ih h
      exact ⟨n, by omega, h2, h3⟩
    · split at h
      · rename_i hc
        exact ⟨m, by omega, hc, by simpa using h⟩
      · cases h
theorem atL_of {v : Int → Int} {key : ByteArray} {l : List (Int × Int)} {r : Int} {k : Nat} (h : r ∈ atL its v key l k) : ∃ p ∈ l, ∃ n : Nat, n < 4 ∧ okA its v key p n = true ∧ r = wrap64 (v (itemA p.1 p.2 n)) := by
  induction k with
  | zero => cases h
  | succ k ih =>
    simp only [atL, List.mem_append] at h
    rcases h with h | h
    · exact ih h
    · split at h
      · rename_i p hp
        exact ⟨p, List.mem_of_getElem? hp, atP_of h⟩
      · cases h
/-- The item in a slot, told. -/
theorem okA_sl {v : Int → Int} {key : ByteArray} {u : Int} {n : Nat} {r : Int} (h : okA its v key (b, u) n = true) (hr : r = wrap64 (v (itemA b u n))) :
    1 ≤ r ∧ r ≤ its.length ∧ (atOf its r).1.key = key := by
  unfold okA at h
  simp only [Bool.and_eq_true, beq_iff_eq] at h
  obtain ⟨⟨h1, h2⟩, h3⟩ := h
  rw [← hr] at h2 h3
  have h4 : 1 ≤ r ∧ r ≤ its.length := by
    unfold atOf at h2
    split at h2
    · assumption
    · cases h2
  rw [ByteArray.toList_eq, ByteArray.toList_eq] at h3
  exact ⟨h4.1, h4.2, ByteArray.ext (Array.toList_inj.1 h3)⟩
/-- What At tells of a key is just its items that stand in the table. -/
theorem cln_at {v : Int → Int} {key : ByteArray} {r : Int} (h : Cln b its c v) (hlen : its.length ≤ 999) :
    r ∈ atL its v key (plist (hashOf key) (tword b 0)) (plist (hashOf key) (tword b 0)).length ↔ (1 ≤ r ∧ r ≤ its.length ∧ (atOf its r).1.key = key ∧ c r ≠ 0) := by
  obtain ⟨k0, k1⟩ := hfold_bd key key.size
  have hb : 1 ≤ b ∧ b ≤ 3 := ⟨h.tbl.b1, h.tbl.b3⟩
  have htb := tag01_bd (hashOf key) k0 k1
  have hkb := bk_bd (hashOf key) b ⟨hb.1, by omega⟩
  have hob := oth_bd0 (bk (hashOf key) b) (tag01 (hashOf key)) b ⟨hb.1, by omega⟩ hkb (by omega)
  constructor
  · intro hr
    obtain ⟨p, hp, n, hn, hok, hrv⟩ := atL_of hr
    obtain ⟨u, hpu, hu⟩ : ∃ u, p = (b, u) ∧ (0 ≤ u ∧ u < tsize b) := by
      rw [plist_one hb] at hp
      split at hp
      · rw [List.mem_singleton] at hp; exact ⟨_, hp, hkb⟩
      · rcases List.mem_cons.1 hp with hp | hp
        · exact ⟨_, hp, hkb⟩
        · rw [List.mem_singleton] at hp; exact ⟨_, hp, hob⟩
    subst hpu
    have hs : SIn b u (n : Int) := ⟨hb.1, hb.2, hu.1, hu.2, by omega, by omega⟩
    have hsl := h.tbl.slot u n hs
    have hv : v (itemA b u (n : Int)) = 0 ∨ (0 ≤ v (itemA b u (n : Int)) ∧ v (itemA b u (n : Int)) ≤ 1000) := by
      rcases hsl with h0 | ⟨m, y, hm, h0, -⟩
      · left; have := congrArg Prod.snd h0; exact this
      · right
        have e : v (itemA b u (n : Int)) = (m : Int) + 1 := congrArg Prod.snd h0
        have := (List.getElem?_eq_some_iff.1 hm).1
        omega
    have hrv2 : r = v (itemA b u (n : Int)) := by rw [hrv]; exact IntWalk.wrap64_in (v (itemA b u (n : Int))) (by rcases hv with e | e <;> omega)
    obtain ⟨g1, g2, g3⟩ := okA_sl (its := its) (b := b) hok hrv
    refine ⟨g1, g2, g3, ?_⟩
    rw [← h.cnt r (by omega)]
    have : 0 < cntI v b r := by
      unfold cntI
      exact List.countP_pos_iff.2 ⟨(u, (n : Int)), slN_mem hs, by simp only [decide_eq_true_eq]; exact hrv2.symm⟩
    omega
  · rintro ⟨g1, g2, g3, g4⟩
    rw [← h.cnt r (by omega)] at g4
    have hpos : 0 < cntI v b r := by omega
    unfold cntI at hpos
    obtain ⟨⟨u, k⟩, hm, hx⟩ := List.countP_pos_iff.1 hpos
    have hx : (slA v b u k).2 = r := by simpa using hx
    have hs := slN_in hb.1 hb.2 hm
    have hs : SIn b u k := hs
    rcases h.tbl.slot u k hs with h0 | ⟨m, y, hmy, h0, hu⟩
    · rw [h0] at hx; simp only at hx; omega
    · have hr1 : r = (m : Int) + 1 := by rw [← hx, h0]
      have hml := (List.getElem?_eq_some_iff.1 hmy).1
      have hat : atOf its r = (y, true) := by
        unfold atOf
        rw [if_pos ⟨g1, g2⟩, show r.toNat - 1 = m by omega]
        simp [hmy, List.getD_eq_getElem?_getD]
      rw [hat] at g3
      have g3 : y.key = key := g3
      rw [g3] at h0 hu
      have hpm : (b, u) ∈ plist (hashOf key) (tword b 0) := by
        rw [plist_one hb]
        split
        · rename_i e
          rcases hu with rfl | rfl
          · exact List.mem_singleton.2 rfl
          · rw [e]; exact List.mem_singleton.2 rfl
        · rcases hu with rfl | rfl
          · exact List.mem_cons_self
          · exact List.mem_cons_of_mem _ (List.mem_singleton.2 rfl)
      obtain ⟨i, hi⟩ := List.mem_iff_getElem?.1 hpm
      have h1 := hs.k0; have h2 := hs.k1
      obtain ⟨n, rfl⟩ : ∃ n : Nat, k = (n : Int) := ⟨k.toNat, by omega⟩
      have e1 : tagOf (v (tagsA b u)) (n : Int) = tag01 (hashOf key) := congrArg Prod.fst h0
      have e2 : v (itemA b u (n : Int)) = r := hx
      have ew : wrap64 (v (itemA b u (n : Int))) = r := by rw [e2]; exact IntWalk.wrap64_in _ (by omega)
      have hok : okA its v key (b, u) n = true := by
        unfold okA
        simp only [ew, hat, e1, g3, beq_self_eq_true, Bool.and_self]
      have := atP_mem (m := 4) (by omega) hok
      simp only [ew] at this
      exact atL_mem (List.getElem?_eq_some_iff.1 hi).1 hi this
/-- What At tells beside hops, where all versions of the key's places are even. -/
theorem see_at {v v' : Int → Int} {key : ByteArray} {L : List (Int × Int)} (hL : ∀ p ∈ L, p.1 = b ∧ ∀ k, 0 ≤ k → k < 4 → slA v b p.2 k = slA v' b p.2 k) (k : Nat) : atL its v key L k = atL its v' key L k := by
  have hP : ∀ p, p ∈ L → ∀ m, m ≤ 4 → atP its v key p m = atP its v' key p m := by
    intro p hp m
    obtain ⟨hb, hs⟩ := hL p hp
    induction m with
    | zero => intro _; rfl
    | succ m ih =>
      intro hm
      have e := hs (m : Int) (by omega) (by omega)
      have e1 : tagOf (v (tagsA p.1 p.2)) (m : Int) = tagOf (v' (tagsA p.1 p.2)) (m : Int) := by rw [hb]; exact congrArg Prod.fst e
      have e2 : v (itemA p.1 p.2 (m : Int)) = v' (itemA p.1 p.2 (m : Int)) := by rw [hb]; exact congrArg Prod.snd e
      simp only [atP, ih (by omega)]
      unfold okA
      rw [e1, e2]
  induction k with
  | zero => rfl
  | succ k ih =>
    simp only [atL, ih]
    congr 1
    split
    · rename_i p hp; exact hP p (List.mem_of_getElem? hp) 4 (Nat.le_refl _)
    · rfl
/-- What is read at a point, beside hops: just what was read ahead of them. -/
theorem reads_same {s3 : CS} (hw : See b its c s3.val) (hits : its.length ≤ 999) {v0 : Int → Int} (h0 : Cln b its c v0) {key : ByteArray} (hev : ∀ p ∈ plist (hashOf key) (s3.val 2), s3.val (ver p.1 p.2) % 2 = 0) (r : Int) :
    r ∈ atL its s3.val key (plist (hashOf key) (s3.val 2)) (plist (hashOf key) (s3.val 2)).length ↔ r ∈ atL its v0 key (plist (hashOf key) (v0 2)) (plist (hashOf key) (v0 2)).length := by
  obtain ⟨v', hc, h2, hs⟩ := hw
  have hb : 1 ≤ b ∧ b ≤ 3 := ⟨h0.tbl.b1, h0.tbl.b3⟩
  have e3 : s3.val 2 = tword b 0 := by rw [h2]; exact hc.tbl.word
  rw [e3] at hev ⊢
  rw [h0.tbl.word, cln_at h0 hits, ← cln_at hc hits]
  obtain ⟨k0, k1⟩ := hfold_bd key key.size
  have htb := tag01_bd (hashOf key) k0 k1
  have hkb := bk_bd (hashOf key) b ⟨hb.1, by omega⟩
  have hob := oth_bd0 (bk (hashOf key) b) (tag01 (hashOf key)) b ⟨hb.1, by omega⟩ hkb (by omega)
  rw [see_at (b := b) (v' := v') (fun p hp => ?_)]
  have hpu : p.1 = b ∧ (0 ≤ p.2 ∧ p.2 < tsize b) := by
    rw [plist_one hb] at hp
    split at hp
    · rw [List.mem_singleton] at hp; rw [hp]; exact ⟨rfl, hkb⟩
    · rcases List.mem_cons.1 hp with hp | hp
      · rw [hp]; exact ⟨rfl, hkb⟩
      · rw [List.mem_singleton] at hp; rw [hp]; exact ⟨rfl, hob⟩
  refine ⟨hpu.1, fun k g0 g1 => hs p.2 k ⟨hb.1, hb.2, hpu.2.1, hpu.2.2, g0, g1⟩ ?_⟩
  have := hev p hp
  rw [hpu.1] at this
  exact this
/-- A key has one item at most. -/
theorem reads_one {had : ByteArray → Int} {v0 : Int → Int} (hf : FTb b its had v0) (h0 : Cln b its c v0) (hits : its.length ≤ 999) {key : ByteArray} {r r' : Int} (hr : r ∈ atL its v0 key (plist (hashOf key) (v0 2)) (plist (hashOf key) (v0 2)).length) (hr' : r' ∈ atL its v0 key (plist (hashOf key) (v0 2)) (plist (hashOf key) (v0 2)).length) : r = r' := by
  rw [h0.tbl.word, cln_at h0 hits] at hr hr'
  have slot : ∀ r : Int, (1 ≤ r ∧ r ≤ its.length ∧ (atOf its r).1.key = key ∧ c r ≠ 0) → ∃ u k, SIn b u k ∧ HasK its v0 b key u k ∧ (slA v0 b u k).2 = r := by
    rintro r ⟨g1, g2, g3, g4⟩
    rw [← h0.cnt r (by omega)] at g4
    have hpos : 0 < cntI v0 b r := by omega
    unfold cntI at hpos
    obtain ⟨⟨u, k⟩, hm, hx⟩ := List.countP_pos_iff.1 hpos
    have hx : (slA v0 b u k).2 = r := by simpa using hx
    have hs : SIn b u k := slN_in h0.tbl.b1 h0.tbl.b3 hm
    have hlt : r.toNat - 1 < its.length := by omega
    refine ⟨u, k, hs, ⟨r.toNat - 1, its[r.toNat - 1], List.getElem?_eq_getElem hlt, ?_, by rw [hx]; omega⟩, hx⟩
    rw [← g3]
    unfold atOf
    rw [if_pos ⟨g1, g2⟩]
    simp [List.getD_eq_getElem?_getD, List.getElem?_eq_getElem hlt]
  obtain ⟨u, k, a1, a2, a3⟩ := slot r hr
  obtain ⟨u', k', b1, b2, b3⟩ := slot r' hr'
  obtain ⟨rfl, rfl⟩ := hf.one key u k u' k' a1 b1 a2 b2
  exact a3.symm.trans b3
/-- What a Look was told, and whether nothing was there. -/
def Told (its : List Itm) (v : Int → Int) (key : ByteArray) (r : Int) : Prop := (r = 0 ∧ atL its v key (plist (hashOf key) (v 2)) (plist (hashOf key) (v 2)).length = []) ∨ (1 ≤ r ∧ r ∈ atL its v key (plist (hashOf key) (v 2)) (plist (hashOf key) (v 2)).length)
theorem told_same {had : ByteArray → Int} {v0 : Int → Int} (hf : FTb b its had v0) (h0 : Cln b its c v0) (hits : its.length ≤ 999) {s3 : CS} (hw : See b its c s3.val) {key : ByteArray} (hev : ∀ p ∈ plist (hashOf key) (s3.val 2), s3.val (ver p.1 p.2) % 2 = 0) {r r0 : Int} (hr : Told its s3.val key r) (hr0 : Told its v0 key r0) : r = r0 := by
  have hsm := reads_same hw hits h0 hev
  rcases hr with ⟨rfl, h1⟩ | ⟨h1, h2⟩ <;> rcases hr0 with ⟨rfl, g1⟩ | ⟨g1, g2⟩
  · rfl
  · have := (hsm r0).2 g2
    rw [h1] at this; cases this
  · have := (hsm r).1 h2
    rw [g1] at this; cases this
  · exact reads_one hf h0 hits ((hsm r).1 h2) g2
/-- A Look by itself. -/
theorem liter_inv (its : List Itm) : ∀ (m : Nat) (V : WV) (s : CS) (x : LK) (s3 : CS), V.its = its → LInv its x s3 s.val → LOk x → (Ptd x → s3.val = s.val) → ∃ s3', LInv its (liter m V s x).2.2.2 s3' (liter m V s x).2.2.1.val ∧ (Ptd (liter m V s x).2.2.2 → s3'.val = s.val) ∧ (liter m V s x).2.2.2.key = x.key
  | 0, V, s, x, s3, hV, h, ho, hp => ⟨s3, h, hp, rfl⟩
  | m + 1, V, s, x, s3, hV, h, ho, hp => by
    by_cases hoff : x.ph = .off
    · rw [liter_off _ _ _ _ hoff]; exact ⟨s3, h, hp, rfl⟩
    · rw [liter_on _ _ _ _ hoff]
      have h2 := h.step s ho 0
      rw [← hV] at h2
      have e := lnS_val s x
      obtain ⟨s3', a1, a2, a3⟩ := liter_inv its m (lnV V s x) (lnS s x) (lnX V.its s x 0) _ ((lnV_its _ _ _).trans hV) (by rw [← hV]; exact h2) (ho.next _ _ _) (fun hq => by
        split
        · rfl
        · rename_i ht
          rw [e]; exact hp (ptd_step ht hoff hq))
      exact ⟨s3', a1, fun hq => by rw [a2 hq, e], a3.trans (lnX_key _ _ _ _)⟩
theorem liter_bd : ∀ (m : Nat) (V : WV) (s : CS) (x : LK), VBd s → VBd (liter m V s x).2.2.1 ∧ (liter m V s x).2.2.1.n ≤ s.n + m ∧ (liter m V s x).2.2.1.cnt ≤ s.cnt + m ∧ s.cnt ≤ (liter m V s x).2.2.1.cnt
  | 0, V, s, x, h => ⟨h, Nat.le_refl _, Nat.le_refl _, Nat.le_refl _⟩
  | m + 1, V, s, x, h => by
    by_cases hoff : x.ph = .off
    · rw [liter_off _ _ _ _ hoff]; exact ⟨h, Nat.le_add_right _ _, Nat.le_add_right _ _, Nat.le_refl _⟩
    · rw [liter_on _ _ _ _ hoff]
      obtain ⟨a1, a2, a3, a4⟩ := liter_bd m (lnV V s x) (lnS s x) (lnX V.its s x 0) h.look
      have hle := lnS_le s x
      exact ⟨a1, Nat.le_trans a2 (by omega), Nat.le_trans a3 (by omega), Nat.le_trans (by omega) a4⟩
/-- What a reading tells. -/
theorem reads_told (V : WV) (s : CS) (key : ByteArray) (vb : Nat) (hev : EvenV s.val) (hc : s.cnt ≤ 90000) (hb : VBd s) :
    ∃ n s2 x2 r, liter 60 V s ⟨key, hashOf key, 0, .fst, 0, [], [], 0, [], 0, 0, 0, false, vb⟩ = (n, V, s2, x2) ∧ s2.val = s.val ∧ x2.got.1 = r ∧ Told V.its s.val key r ∧ VBd s2 ∧ s2.n ≤ s.n + 60 ∧ s2.cnt ≤ s.cnt + 60 ∧ s.cnt ≤ s2.cnt := by
  obtain ⟨n, s2, x2, r, pt, e1, e2, e3, e4, e5, -, -⟩ := quiet_sum V s key vb hev hc
  obtain ⟨s3', g1, g2, g3⟩ := liter_inv V.its 60 V s ⟨key, hashOf key, 0, .fst, 0, [], [], 0, [], 0, 0, 0, false, vb⟩ s rfl (LInv.new key 0 vb) (LOk.new key 0 (by omega) vb) (fun _ => rfl)
  have hbd := liter_bd 60 V s ⟨key, hashOf key, 0, .fst, 0, [], [], 0, [], 0, 0, 0, false, vb⟩ hb
  rw [e1] at g1 g2 g3 hbd
  have g2 : s3'.val = s.val := g2 (.inr (.inr (.inr (.inr ⟨e3, e4⟩))))
  have g3 : x2.key = key := g3
  obtain ⟨-, -, h3⟩ := off_law g1 e3 e4
  rw [g2, g3] at h3
  refine ⟨n, s2, x2, x2.ref, e1, e2, ?_, h3, hbd.1, hbd.2.1, hbd.2.2.1, hbd.2.2.2⟩
  unfold LK.got
  rw [if_pos ⟨e3, e4⟩]
end
end Go.Proofs.YtdbgfidnccpmdaaGreat

/-
  Looks beside hops: what each leaves of the other; a reading.
-/
namespace Go.Proofs.YtdbgfidnccpmdaaGreat
open Go.RowKit Go.Maps TagPure
set_option linter.unusedVariables false

section
variable {w0 w W W' : World} {B : WB} {V V' : WV} {s s' : CS} {S : List Nat} {hb fb lo : Nat} {qs qs' : List (Nat × Dg)} {x : HP} {y : LK}
theorem HMB.base (h : HMB w0 w W B V s S hb x qs) : HMB w0 W W B V s (hb :: qs.map Prod.fst) hb x qs :=
  ⟨h.ws, h.hp, FS.refl _ _, .inl (List.mem_cons_self), fun q hq => .inl (List.mem_cons_of_mem _ (List.mem_map.2 ⟨q, hq, rfl⟩))⟩
/-- The blocks' types that a step of hops turns. -/
def kH (T : TypeId) : Bool := wTy T || T == 280 || T == 322 || T == 320 || T == 317
theorem hops_fr (h : HopsAt W lo hb x qs) (hf : FS (hb :: qs.map Prod.fst) W W') : Fr kH true W W' := by
  refine ⟨hf.size, fun k c T f h1 h2 => ?_, fun c => by cases c⟩
  simp only [kH, Bool.or_eq_false_iff] at h2
  obtain ⟨⟨⟨⟨e1, e2⟩, e3⟩, e4⟩, e5⟩ := h2
  refine hf.cells k c T f h1 e1 fun hm => ?_
  rcases List.mem_cons.1 hm with rfl | hm
  · obtain ⟨cs, b1⟩ := h.blk
    rw [b1] at h1
    simp only [Option.some.injEq, Obj.cells.injEq] at h1
    rw [← h1.2.1] at e2
    simp at e2
  · obtain ⟨q, hq, rfl⟩ := List.mem_map.1 hm
    obtain ⟨cs2, T2, b2, hT⟩ := (h.dos q hq).2.1.blk
    rw [b2] at h1
    simp only [Option.some.injEq, Obj.cells.injEq] at h1
    rw [← h1.2.1] at e3 e4 e5
    rcases hT with rfl | rfl | rfl
    · simp at e3
    · simp at e4
    · simp at e5
theorem kH_l (T : TypeId) (h : lTy T = true) : kH T = false := by
  unfold lTy at h
  simp only [Bool.or_eq_true, beq_iff_eq] at h
  rcases h with ((rfl | rfl) | rfl) | rfl <;> rfl
theorem HopsAt.look (h : HopsAt W lo hb x qs) (hf : Fr kL true W W') : HopsAt W' lo hb x qs := by
  obtain ⟨h1, h2, h3, h4, ⟨vw, vd, g1, g2, g3⟩, h6, h7⟩ := h
  refine ⟨h1, h2, h3, h4, ⟨vw, vd, hf.cells _ _ _ _ g1 rfl, own_fr g2 hf rfl, g3.of (fun g cur hg => hf.cells _ _ _ _ hg rfl)⟩, fun q hq => ⟨(h6 q hq).1, ?_, (h6 q hq).2.2⟩, h7⟩
  have hd := (h6 q hq).2.1
  obtain ⟨b, d⟩ := q
  cases d with
  | mark xs =>
    obtain ⟨v, e1, e2⟩ := hd
    refine ⟨v, hf.cells _ _ _ _ e1 rfl, ?_⟩
    rcases e2 with e2 | ⟨g, off, cur, rfl, e3, e4⟩
    · exact .inl e2
    · exact .inr ⟨g, off, cur, rfl, hf.cells _ _ _ _ e3 rfl, e4⟩
  | out σ => exact hf.cells _ _ _ _ hd rfl
  | put σ g r => exact hf.cells _ _ _ _ hd rfl
/-- Hops, where a Look has made a step. -/
theorem HMB.look (h : HMB w0 w W B V s S hb x qs) (h2 : WS w0 W' B V' s') (hf : Fr kL true W W') : HMB w0 W' W' B V' s' (hb :: qs.map Prod.fst) hb x qs :=
  ⟨h2, h.hp.look hf, FS.refl _ _, .inl (List.mem_cons_self), fun q hq => .inl (List.mem_cons_of_mem _ (List.mem_map.2 ⟨q, hq, rfl⟩))⟩
end
/-- A step, whatever the versions' block; what it leaves. -/
theorem lstepK {w0 w : World} {B : WB} {V : WV} {s : CS} {fb : Nat} {x : LK} (h : WS w0 w B V s) (hr : s.room) (hx : LookE w w0.heap.size fb x) (ho : LOk x) (hi : V.its.length ≤ 1048576) (hn : V.nts.length < 1048576) (hs : Nsteps V.nts s.cnt) (hoff : x.ph ≠ .off) :
    Calls Tryz.prog 26 #[.pointer (some ⟨fb, 0, none⟩), .pointer (some ⟨B.wb, 0, none⟩)] w fun e w' => e = .returned (.bool (decide ((lnX V.its s x 0).ph = .off))) ∧ WS w0 w' B (lnV V s x) (lnS s x) ∧ LookE w' w0.heap.size fb (lnX V.its s x 0) ∧ Fr kL true w w' := by
  obtain ⟨a, ha⟩ := hx
  refine (lstep h hr ha (ho.vb a) hi hn hs hoff).mono fun e w' hh => ?_
  obtain ⟨vb, h1, -, h2, h3, h4⟩ := hh
  have hf : Fr kL true w w' := look_fr ha h4
  obtain ⟨c, hc⟩ := lnX_vb V.its s x a vb
  rw [hc] at h1 h3
  rw [lnV_vb, lnS_vb] at h2
  exact ⟨h1, h2, ⟨c, h3⟩, hf⟩
set_option maxRecDepth 10000 in
set_option maxHeartbeats 2000000 in
theorem lrunK {w0 w : World} {B : WB} {V : WV} {s : CS} {fb : Nat} {x : LK} (m : Nat) (hm : m ≤ 1000) (c : Nat) (hc : s.n ≤ c ∧ s.cnt ≤ c) (hcl : c + 1000 < lim) (h : WS w0 w B V s) (hx : LookE w w0.heap.size fb x) (ho : LOk x) (hi : V.its.length ≤ 1048576) (hn : V.nts.length ≤ 1000000) (hs : Nsteps V.nts s.cnt) :
    Calls Tryz.prog 36 #[.pointer (some ⟨B.wb, 0, none⟩), .iface 64 (.pointer (some ⟨fb, 0, none⟩)), .int .i64 m] w fun e w' => e = .returned (.int .i64 ((liter m V s x).1 : Nat)) ∧ WS w0 w' B (liter m V s x).2.1 (liter m V s x).2.2.1 ∧ LookE w' w0.heap.size fb (liter m V s x).2.2.2 ∧ Fr kL true w w' := by
  have H := Lib.hid h; have HX := Lib.hid hx; have HO := Lib.hid ho; have HC := Lib.hid hc; have HCL := Lib.hid hcl; have HI := Lib.hid hi; have HN := Lib.hid hn; have HS := Lib.hid hs
  clear h hx ho hc hcl hi hn hs
  obtain ⟨R, hR⟩ : ∃ R, R = liter m V s x := ⟨_, rfl⟩
  rw [← hR]
  have HR := Lib.hid hR
  clear hR
  go_enter Tryz.func36, Tryz.ntmps36
  go_wp2
  go_loopw [7] (fun i wr => ∃ (k : Nat) (V' : WV) (s' : CS) (x' : LK), k ≤ m ∧ i = .int .i64 k ∧ WS w0 wr B V' s' ∧ LookE wr w0.heap.size fb x' ∧ LOk x' ∧ V'.its = V.its ∧ (V'.nts.length ≤ V.nts.length + k ∧ Nsteps V'.nts s'.cnt) ∧ (s'.n ≤ c + k ∧ s'.cnt ≤ c + k) ∧ R = ((liter (m - k) V' s' x').1 + k, (liter (m - k) V' s' x').2) ∧ Fr kL true w wr) (fun i _ => m - (intOf i).toNat)
  case atStart => exact ⟨0, V, s, x, by omega, rfl, H.out, HX.out, HO.out, rfl, ⟨Nat.le_refl _, HS.out⟩, HC.out, HR.out, below_fr (Below.refl _ _) kL true⟩
  case round =>
    clear H HX HO HS HC HR
    obtain ⟨k, V', s', x', hk, rfl, h, hx, ho, hits, hn, hc, hR, hfr⟩ := hrel
    have hov := loverE hx
    have HFR := Lib.hid hfr
    clear hfr
    by_cases hlt : k < m
    · have hlt' : (k : Int) < m := by omega
      by_cases hoff : x'.ph = .off
      · rw [decide_eq_true hoff] at hov
        rw [liter_off _ _ _ _ hoff] at hR
        have P := Lib.hid (And.intro h hx)
        have HR := Lib.hid hR
        clear h hx ho hits hn hc hR hoff
        go_wp2_with (go_at_call 90; refine hov.mono ?_; intro e w2 hh; obtain ⟨hh1, hh2⟩ := hh; subst hh1; obtain rfl := hh2.symm; clear hov)
        go_ret
        rw [HR.out]
        exact ⟨by simp, P.out.1, P.out.2, HFR.out⟩
      · rw [decide_eq_false hoff] at hov
        have hst := lstepK h (CS.room_of (c + k) hc (by have := HCL.out; omega)) hx ho (by rw [hits]; exact HI.out) (by have := HN.out; omega) hn.2 hoff
        obtain ⟨q, hq⟩ : ∃ q, q = m - (k + 1) := ⟨_, rfl⟩
        rw [show m - k = q + 1 by omega, liter_on _ _ _ _ hoff] at hR
        have hR2 : R = ((liter q (lnV V' s' x') (lnS s' x') (lnX V'.its s' x' 0)).1 + (k + 1), (liter q (lnV V' s' x') (lnS s' x') (lnX V'.its s' x' 0)).2) := by
          rw [hR, Prod.mk.injEq]; exact ⟨by simp only; omega, rfl⟩
        have ho2 := ho.next V'.its s' 0
        have hle := lnS_le s' x'
        have hn2 : (lnV V' s' x').nts.length ≤ V.nts.length + (k + 1) ∧ Nsteps (lnV V' s' x').nts (lnS s' x').cnt := ⟨by have := lnV_nts V' s' x'; omega, lnV_steps _ _ _ hn.2⟩
        have hc2 : (lnS s' x').n ≤ c + (k + 1) ∧ (lnS s' x').cnt ≤ c + (k + 1) := by omega
        have hi2 : (lnV V' s' x').its = V.its := (lnV_its _ _ _).trans hits
        rw [hq] at hR2
        have Q := Lib.hid (And.intro ho2 (And.intro hi2 (And.intro hn2 (And.intro hc2 hR2))))
        have HLT := Lib.hid hlt
        clear h hx ho hits hn hc hR hq hR2 ho2 hle hn2 hc2 hi2 hoff
        generalize hd : decide ((lnX V'.its s' x' 0).ph = .off) = d at hst
        clear hd
        go_wp2_with (first
          | (go_at_call 90; refine hov.mono ?_; intro e w2 hh; obtain ⟨hh1, hh2⟩ := hh; subst hh1; obtain rfl := hh2.symm; clear hov)
          | (go_at_call 26; refine hst.mono ?_; intro e w3 hh; obtain ⟨hh1, g1, g2, g3⟩ := hh; subst hh1; have P := Lib.hid (And.intro g1 (And.intro g2 (HFR.out.trans g3))); clear g1 g2 g3 hst))
        go_roundw
        case rel => exact ⟨k + 1, _, _, _, HLT.out, by go_num, P.out.1, P.out.2.1, Q.out.1, Q.out.2.1, Q.out.2.2.1, Q.out.2.2.2.1, Q.out.2.2.2.2, P.out.2.2⟩
        case measure => have := HLT.out; simp [intOf]; omega
    · obtain rfl : k = m := by omega
      rw [Nat.sub_self] at hR
      have P := Lib.hid (And.intro h hx)
      have HR := Lib.hid hR
      clear h hx ho hits hn hc hR hov
      go_wp2
      go_ret
      rw [HR.out]
      exact ⟨by simp [liter], P.out.1, P.out.2, HFR.out⟩
/-- What a reading leaves. -/
def RdsPost (w0 w : World) (B : WB) (V : WV) (s : CS) (key : ByteArray) (e : Ending) (w' : World) : Prop := ∃ r s2, e = .returned (.int .i64 r) ∧ WS w0 w' B V s2 ∧ s2.val = s.val ∧ Told V.its s.val key r ∧ VBd s2 ∧ s2.n ≤ s.n + 60 ∧ s2.cnt ≤ s.cnt + 60 ∧ s.cnt ≤ s2.cnt ∧ Fr kL true w w'
set_option maxRecDepth 10000 in
set_option maxHeartbeats 2000000 in
theorem reads_any {w0 w : World} {B : WB} {V : WV} {s : CS} (h : WS w0 w B V s) (hc : s.n ≤ 1000 ∧ s.cnt ≤ 1000) (key : ByteArray) (hk : key.size ≤ maxLen) (hev : EvenV s.val) (hb : VBd s) (hi : V.its.length ≤ 1000) (hn : V.nts.length ≤ 1000) (hs : Nsteps V.nts s.cnt) :
    Calls Tryz.prog 68 #[.pointer (some ⟨B.wb, 0, none⟩), .string key] w (RdsPost w0 w B V s key) := by
  have hnl := fun W => newlook_tr key hk 0 (by omega) W
  have H := Lib.hid h; have HC := Lib.hid hc; have HEV := Lib.hid hev; have HB := Lib.hid hb; have HI := Lib.hid hi; have HN := Lib.hid hn; have HS := Lib.hid hs
  clear h hc hk hev hb hi hn hs
  go_enter Tryz.func68, Tryz.ntmps68
  go_upto_region 2 with (go_at_call 20; refine (hnl _).mono ?_; intro e w1 hh; obtain ⟨fb, hh1, a1, b1⟩ := hh; subst hh1; have A1 := Lib.hid a1; have B1 := Lib.hid b1; clear a1 b1 hnl)
  obtain ⟨n, s2, x2, r, e1, e2, e3, e4, e5, e6, e7, e8⟩ := reads_told V s key fb HEV.out (by have := HC.out; omega) HB.out
  have hrun := lrunK (x := ⟨key, hashOf key, 0, .fst, 0, [], [], 0, [], 0, 0, 0, false, fb⟩) 60 (by decide) 1000 HC.out (by unfold lim; decide) (H.out.keep B1.out) (LookAt.e (A1.out.lower H.out.below.size)) (LOk.new key 0 (by omega) fb) (by have := HI.out; omega) (by have := HN.out; omega) HS.out
  rw [e1] at hrun
  have E := Lib.hid (And.intro e2 (And.intro e4 (And.intro e5 (And.intro e6 (And.intro e7 e8)))))
  have HG := Lib.hid e3
  clear e1 e2 e3 e4 e5 e6 e7 e8
  go_upto_region 3 with (go_at_call 36; refine hrun.mono ?_; intro e w2 hh; obtain ⟨hh1, h2, l2, f2⟩ := hh; subst hh1; have H2 := Lib.hid h2; have L2 := Lib.hid l2; have F2 := Lib.hid ((below_fr B1.out kL true).trans f2); clear h2 l2 f2 hrun)
  have hgt := lgotE L2.out
  rw [HG.out] at hgt
  generalize x2.got.2.1 = g1 at *
  generalize x2.got.2.2 = g2 at *
  go_wp2_with (go_at_call 37; refine hgt.mono ?_; intro e w3 hh; obtain ⟨hh1, b3⟩ := hh; subst hh1; have H3 := Lib.hid (H2.out.keep b3); have F3 := Lib.hid (F2.out.trans (below_fr b3 kL true)); clear b3 hgt)
  go_ret
  exact ⟨r, s2, rfl, H3.out, E.out.1, E.out.2.1, E.out.2.2.1, E.out.2.2.2.1, E.out.2.2.2.2.1, E.out.2.2.2.2.2, F3.out⟩
/-! ## Ahead of each step. -/
structure HrB (w0 W : World) (B : WB) (its : List Itm) (b : Int) (c : Int → Nat) (Wy : List (Int × Int)) (key : ByteArray) (hb fb k : Nat) (V : WV) (s : CS) (x : HP) (qs : List (Nat × Dg)) (y : LK) (s3 : CS) : Prop where
  m : HMB w0 W W B V s (hb :: qs.map Prod.fst) hb x qs
  l : LookE W w0.heap.size fb y
  itsE : V.its = its
  nts : V.nts.length ≤ 500 + k
  ns : Nsteps V.nts s.cnt
  vb : VBd s
  bn : s.n ≤ 500 + k
  bc : s.cnt ≤ 500 + k
  hs : HS b its c Wy s x
  li : LInv its y s3 s.val
  lo : LOk y
  keyE : y.key = key
  see : Ptd y → See b its c s3.val
section
variable {w0 W W' : World} {B : WB} {its : List Itm} {b : Int} {c : Int → Nat} {Wy : List (Int × Int)} {key : ByteArray} {hb fb k : Nat} {V : WV} {s : CS} {x : HP} {qs : List (Nat × Dg)} {y : LK} {s3 : CS}
theorem HrB.room (h : HrB w0 W B its b c Wy key hb fb k V s x qs y s3) (hk : k ≤ 400) : s.room := CS.room_of 1000 (by have := h.bn; have := h.bc; omega) (by unfold lim; decide)
theorem HrB.up (h : HrB w0 W B its b c Wy key hb fb k V s x qs y s3) : HrB w0 W B its b c Wy key hb fb (k + 1) V s x qs y s3 :=
  { h with nts := (by have := h.nts; omega), bn := (by have := h.bn; omega), bc := (by have := h.bc; omega) }
theorem HrB.below (h : HrB w0 W B its b c Wy key hb fb k V s x qs y s3) (hw : Below W.heap.size W W') : HrB w0 W' B its b c Wy key hb fb k V s x qs y s3 :=
  { h with m := (h.m.below hw).base, l := h.l.bel hw }
/-- The hops have made a step. -/
theorem HrB.hstep (h : HrB w0 W B its b c Wy key hb fb k V s x qs y s3) (hk : k ≤ 400) (hits : its.length ≤ 999) (hl : x.left ≠ 0) {qs' : List (Nat × Dg)} (h2 : HMB w0 W W' B V (x.next s).1 (hb :: qs.map Prod.fst) hb (x.next s).2 qs') :
    HrB w0 W' B its b c Wy key hb fb (k + 1) V (x.next s).1 (x.next s).2 qs' y s3 := by
  obtain ⟨-, -, a3, a4, a5⟩ := h.hs.step hits hl h.vb (by have := h.bc; omega)
  have hle := next_le s x
  have hge : s.cnt ≤ (x.next s).1.cnt := by
    rcases hp_next_val s x with ⟨d, r, -, e⟩ | ⟨-, -, e⟩
    · rw [e]; exact dstep_cnt s d
    · exact e
  have hf : Fr kH true W W' := hops_fr h.m.hp h2.fs
  exact { m := h2.base, l := h.l.fr hf kH_l, itsE := h.itsE, nts := (by have := h.nts; omega), ns := h.ns.le (by omega), vb := a4, bn := (by have := h.bn; omega), bc := (by have := h.bc; omega), hs := a5, li := h.li.since a3, lo := h.lo, keyE := h.keyE, see := h.see }
/-- The Look has made a step. -/
theorem HrB.lstep (h : HrB w0 W B its b c Wy key hb fb k V s x qs y s3) (hits : its.length ≤ 999) (hoff : y.ph ≠ .off) (h2 : WS w0 W' B (lnV V s y) (lnS s y)) (hl : LookE W' w0.heap.size fb (lnX its s y 0)) (hf : Fr kL true W W') :
    HrB w0 W' B its b c Wy key hb fb (k + 1) (lnV V s y) (lnS s y) x qs (lnX its s y 0) (if y.ph = .thd then lnS s y else s3) := by
  have hbn := h.bn; have hbc := h.bc
  obtain ⟨c1, c2⟩ := lns_cnt s hoff
  have hs2 := h.hs.val (lnS_val s y)
  have hsee : Ptd (lnX its s y 0) → See b its c (if y.ph = .thd then lnS s y else s3).val := fun hp => by
    split
    · exact hs2.see hits
    · rename_i ht
      exact h.see (ptd_step ht hoff hp)
  exact { m := h.m.look h2 hf, l := hl, itsE := (lnV_its _ _ _).trans h.itsE, nts := (by have := lnV_nts V s y; have := h.nts; omega), ns := lnV_steps _ _ _ h.ns, vb := h.vb.look, bn := (by omega), bc := (by omega), hs := hs2, li := h.li.step s h.lo 0, lo := h.lo.next _ _ _, keyE := (lnX_key _ _ _ _).trans h.keyE, see := hsee }
/-- Another Look. -/
theorem HrB.new {fb' : Nat} (h : HrB w0 W B its b c Wy key hb fb k V s x qs y s3) (hw : Below W.heap.size W W') {tr : Int} (htr : 0 ≤ tr ∧ tr < 9223372036854775808) (a : LookAt W' W.heap.size fb' ⟨key, hashOf key, tr, .fst, 0, [], [], 0, [], 0, 0, 0, false, fb'⟩) :
    HrB w0 W' B its b c Wy key hb fb' k V s x qs ⟨key, hashOf key, tr, .fst, 0, [], [], 0, [], 0, 0, 0, false, fb'⟩ s3 :=
  { h with m := (h.m.below hw).base, l := LookAt.e (a.lower h.m.ws.below.size), li := LInv.new _ _ _, lo := LOk.new key tr htr fb', keyE := rfl, see := fun hp => by unfold Ptd at hp; simp at hp }
end
end Go.Proofs.YtdbgfidnccpmdaaGreat

/-
  HopsRead: Looks beside hops: the walk.
-/
namespace Go.Proofs.YtdbgfidnccpmdaaGreat
open Go.RowKit Go.Maps TagPure
set_option linter.unusedVariables false

theorem By8.getH {w : World} {a : Option Addr} {cap : Nat} {l : List Int} (h : By8 w a cap l) (i : Nat) (hi : i < l.length) :
    ∃ b off, a = some ⟨b, off, none⟩ ∧ (0 ≤ l.getD i 0 ∧ l.getD i 0 < 256) ∧ w.cell? ⟨b, off + i, none⟩ = some (.int .u8 (l.getD i 0)) := by
  have e : l.getD i 0 = l[i] := by rw [List.getD_eq_getElem?_getD, List.getElem?_eq_getElem hi]; rfl
  rw [e]
  rcases h.cell with rfl | ⟨b, off, rfl, h5⟩
  · simp at hi
  · exact ⟨b, off, rfl, h.wf _ (List.getElem_mem hi), h5 i hi⟩
theorem way_lenR {b : Int} {its : List Itm} {c : Int → Nat} {Wy : List (Int × Int)} {L : Nat} {v : Int → Int} (h : HWay b its c Wy L v) : Wy.length ≤ 8 := by
  obtain ⟨t1, t2, t3⟩ := fway_tab ⟨h.tbl.b1, h.tbl.b3⟩
  have := nodup_len (tsize b).toNat (Wy.map (·.1)) h.nd (fun u hu => by
    obtain ⟨x, hx, rfl⟩ := List.mem_map.1 hu
    have hs := h.inn x hx
    exact ⟨hs.u0, by have := hs.u1; omega⟩)
  rw [List.length_map] at this
  omega
abbrev TKy (pq kb ko : Nat) (v : Value) (key : ByteArray) (W : World) : Prop := W.cell? ⟨pq, 1, none⟩ = some v ∧ W.cell? ⟨kb, ko, none⟩ = some (.string key)
set_option maxRecDepth 100000 in
set_option maxHeartbeats 8000000 in
theorem hread_any (f : Ful) (which : Int) (hwh : 0 ≤ which ∧ which < 256) (w : World) (hr : FulRd w f) : Calls Tryz.prog 9 #[.agg f.cells, .int .u8 which] w fun e w' => e = .returned (.bool true) ∧ Below w.heap.size w w' := by
  have hB := below_alloc w (.cells f.cells 130)
  have z := heap_alloc_new w (.cells f.cells 130)
  have HR := Lib.hid (hr.below hB); have HB := Lib.hid hB; have HZ := Lib.hid z
  clear hr hB z
  have HWH := Lib.hid hwh
  clear hwh
  go_enter Tryz.func9, Tryz.ntmps9
  go_upto_region 1 with (fail)
  change Code.wp _ _ _ _ (w.alloc (.cells f.cells 130))
  obtain ⟨w1, hw1⟩ : ∃ w1, w1 = w.alloc (.cells f.cells 130) := ⟨_, rfl⟩
  rw [← hw1] at HR HB HZ ⊢
  clear hw1
  obtain ⟨pq, hpq⟩ : ∃ pq, pq = w.heap.size := ⟨_, rfl⟩
  rw [← hpq] at HZ ⊢
  have HPQ := Lib.hid hpq
  clear hpq
  obtain ⟨e0, e1, e2, e3, e4, e5⟩ := ful_cells HZ.out
  have hgr := ful_great f w1 HR.out
  unfold FulGr at hgr
  go_upto_if 16 with (go_at_call 50; refine hgr.mono ?_; intro e w2 hh; obtain ⟨g, hh1, b2, hg⟩ := hh; subst hh1; have B2 := Lib.hid b2; have HG := Lib.hid hg; clear b2 hg hgr e0 e1 e2 e3 e4 e5; cases g)
  rotate_left
  · go_wp2_with (go_at_call 65; refine (lives17 _).mono ?_; rintro e w3 ⟨rfl, b3⟩)
    go_ret
    have h1 := HB.out.trans (B2.out.mono HB.out.size)
    exact ⟨rfl, h1.trans (b3.mono h1.size)⟩
  obtain ⟨hkl, hll, hsl⟩ := HG.out trivial
  have hr2 := HR.out.below B2.out
  have HR2 := Lib.hid hr2
  have HB2 := Lib.hid (HB.out.trans (B2.out.mono HB.out.size))
  have hz2 := (B2.out.block _ (Array.getElem?_eq_some_iff.1 HZ.out).1).trans HZ.out
  have HZ2 := Lib.hid hz2
  obtain ⟨e0, e1, e2, e3, e4, e5⟩ := ful_cells hz2
  have hfw := ful_world f w2 hr2 hkl hll
  unfold FWPost at hfw
  have HKL := Lib.hid hkl; have HSL := Lib.hid hsl
  clear hr2 hz2 hkl hll hsl HG B2 HB HR HZ
  obtain ⟨b, hb⟩ : ∃ b, b = fbits f := ⟨_, rfl⟩
  have hbi := fbits_in f
  rw [← hb] at hfw hbi
  have HBI := Lib.hid hbi
  clear hb hbi
  go_upto_region 6 with (go_at_call 51; refine hfw.mono ?_; intro e w3 hh; obtain ⟨w0, B, s, had, hbw, hh1, hf⟩ := hh; subst hh1; have HF := Lib.hid hf; have HBW := Lib.hid hbw; clear hfw hf hbw e0 e1 e2 e3 e4 e5)
  have hits : (fitms f).length ≤ 40 := by unfold fitms; rw [List.length_map]; exact HKL.out
  have hkeys : ∀ x ∈ fitms f, x.key.size ≤ maxLen := fun x hx => by
    obtain ⟨k, hk, rfl⟩ := List.mem_map.1 hx
    exact HR2.out.keys.sz k hk
  obtain ⟨V, hV⟩ : ∃ V : WV, V = { v0 ⟨b, 8, 3, 1, 16⟩ with its := fitms f, fm := [] } := ⟨_, rfl⟩
  have hws := HF.out.ws
  rw [← hV] at hws
  have hVi : V.its = fitms f := by rw [hV]
  have HVI := Lib.hid hVi
  have HVN := Lib.hid (show V.nts = [] by rw [hV]; rfl)
  have HWS := Lib.hid hws; have HITS := Lib.hid hits; have HKEYS := Lib.hid hkeys
  have HLO := Lib.hid (show w2.heap.size ≤ w0.heap.size from HBW.out.size)
  have HBB := Lib.hid (HB2.out.trans (HBW.out.mono HB2.out.size))
  have HRF := Lib.hid (fun (W : World) (hW : Below w0.heap.size w0 W) => (HR2.out.below HBW.out).below hW)
  have HZF := Lib.hid (fun (W : World) (hW : Below w0.heap.size w0 W) => show W.heap[pq]? = some (.cells f.cells 130 (0, 0)) from by
    have h1 := (HBW.out.block _ (Array.getElem?_eq_some_iff.1 HZ2.out).1).trans HZ2.out
    exact (hW.block _ (Array.getElem?_eq_some_iff.1 h1).1).trans h1)
  clear hws hV hVi hits hkeys HR2 HB2 HZ2 HBW
  have HSZ := Lib.hid HWS.out.below.size
  obtain ⟨e0, e1, e2, e3, e4, e5⟩ := ful_cells (HZF.out w3 HWS.out.below)
  have hway := fway_any f HWS.out (HRF.out w3 HWS.out.below) HBI.out HF.out.tb.tbl.word 241 (by have := HF.out.bd; omega) (by unfold lim; decide)
  unfold FWayPost at hway
  go_upto_region 7 with (go_at_call 66; refine hway.mono ?_; intro e w6 hh; obtain ⟨v, p, s2, hh1, h6, v6, n6, c6, hsp, f6⟩ := hh; subst hh1; have H6 := Lib.hid h6; have P6 := Lib.hid (And.intro v6 (And.intro n6 c6)); have HSP := Lib.hid hsp; clear h6 v6 n6 c6 hsp f6 hway e0 e1 e2 e3 e4 e5)
  obtain ⟨Wy, hWy⟩ : ∃ Wy, Wy = (fway s.val b (2 + f.most) (u1of f b) (u2of f b) 600).2.2.1 := ⟨_, rfl⟩
  rw [← hWy] at HSP
  have HWY := Lib.hid hWy
  clear hWy
  have hts : Tbl b V.its s.val := by rw [HVI.out]; exact HF.out.tb.tbl
  have hil : V.its.length ≤ 999 := by rw [HVI.out]; have := HITS.out; omega
  have hcl : Cln b V.its (cntI s.val b) s.val := ⟨hts, fun _ _ => rfl⟩
  have hw0 : Wy ≠ [] → HWay b V.its (cntI s.val b) Wy (Wy.length - 1) s.val := fun hne => by
    obtain ⟨hu1, hu2⟩ := uof_in f HBI.out
    have hld := fway_leads (v := s.val) (most := 2 + f.most) HBI.out hu1 hu2 (n := 600) (by omega)
    rw [← HWY.out] at hld
    exact leads_hway hts HF.out.tb.bd HF.out.tb.ev hu1 hu2 hld hne
  have hl8 : Wy.length ≤ 8 := by
    by_cases hne : Wy = []
    · rw [hne]; exact Nat.zero_le _
    · exact way_lenR (hw0 hne)
  have hhs : HS b V.its (cntI s.val b) Wy s2 (hpnew (way3 b Wy)) := by
    by_cases hne : Wy = []
    · subst hne
      exact .inl ⟨rfl, by rw [P6.out.1]; exact hcl⟩
    · have hx : hpnew (way3 b Wy) = ⟨wayH b Wy, Wy.length - 1, 0, false, []⟩ := by unfold hpnew; simp [way3, wayH]
      rw [hx]
      exact HS.of (WI.start (hw0 hne) P6.out.1 0)
  have hwf : ∀ p ∈ wayH b Wy, (Lit.int .i64 p.2.2).wf = true := fun p hp => by
    obtain ⟨x, hx, rfl⟩ := List.mem_map.1 hp
    have hne : Wy ≠ [] := fun e => by rw [e] at hx; cases hx
    have h1 := ((hw0 hne).inn x hx).k0; have h2 := ((hw0 hne).inn x hx).k1
    simp [Lit.wf, IntKind.min, IntKind.max, IntKind.bits, IntKind.signed]; omega
  obtain ⟨va, hva, hvm⟩ := HSP.out.sl
  subst hva
  have hnh := newhops4 (spn_row HSP.out) (by rw [show (way3 b Wy).length = Wy.length from List.length_map _]; omega)
  have hcb : s2.n ≤ 249 ∧ s2.cnt ≤ 249 := by have h1 := HF.out.bd; have h2 := P6.out; omega
  have hvb : VBd s2 := fun a h1 h2 => by rw [P6.out.1, HF.out.tb.zv a h1 h2]; omega
  have hev : EvenV s2.val := fun a h1 h2 => by rw [P6.out.1]; exact HF.out.tb.ev a h1 h2
  have HTS := Lib.hid hts; have HIL := Lib.hid hil; have HCLN := Lib.hid hcl; have HHS := Lib.hid hhs; have HWF := Lib.hid hwf; have HCB := Lib.hid hcb; have HVB := Lib.hid hvb; have HEV := Lib.hid hev; have HFT := Lib.hid (show FTb b V.its had s.val by rw [HVI.out]; exact HF.out.tb)
  have HV2 := Lib.hid P6.out.1
  clear hts hil hcl hw0 hhs hwf hcb hvb hev hvm
  obtain ⟨x0, hx0⟩ : ∃ x0, x0 = hpnew (way3 b Wy) := ⟨_, rfl⟩
  rw [← hx0] at HHS hnh
  clear hx0
  go_upto_region 8 with (go_at_call 67; refine hnh.mono ?_; intro e w7 hh; obtain ⟨hb, hh1, hp, b7⟩ := hh; subst hh1; have H7 : Hid (HMB w0 w7 w7 B (V.plus p) s2 [hb] hb x0 []) := Lib.hid ⟨H6.out.keep b7, hp.lower H6.out.below.size, FS.refl _ _, .inl (List.mem_singleton.2 rfl), by simp⟩; clear hp b7 hnh)
  clear H6 HSP P6 HF HWY hl8
  obtain ⟨e0, e1, e2, e3, e4, e5⟩ := ful_cells (HZF.out w7 H7.out.ws.below)
  have hkeys := (HRF.out w7 H7.out.ws.below).keys
  have hfk := (HRF.out w7 H7.out.ws.below).key
  have HKS := Lib.hid hkeys; have HFK := Lib.hid hfk
  clear hkeys hfk
  -- the key
  go_upto_region 11 with (fail)
  rename_i hk0
  have hwb := HWH.out
  obtain ⟨n, hn⟩ : ∃ n : Nat, (n : Int) = which % f.keys.length := ⟨(which % f.keys.length).toNat, Int.toNat_of_nonneg (Int.emod_nonneg _ (by omega))⟩
  have hnl : n < f.keys.length := by have := Int.emod_lt_of_pos which (show (0 : Int) < f.keys.length by omega); omega
  have ht : which.tmod f.keys.length = (n : Int) := by rw [Int.tmod_eq_emod_of_nonneg hwb.1]; exact hn.symm
  obtain ⟨kb, ko, key, hka, hkx, hksz, hkc⟩ := HKS.out.at n hnl
  rw [hka] at e1
  have hle := HKS.out.le; have hmo := HKS.out.most
  have d1 : ((f.keys.length : Int) == 0) = false := beq_eq_false_iff_ne.2 (by omega)
  have d1n : (f.keys.length == 0) = false := beq_eq_false_iff_ne.2 (by omega)
  have hlm : (f.keys.length : Int) ≤ 40 := by have := HITS.out; unfold fitms at this; rw [List.length_map] at this; omega
  have ew : wrap64 which = which := IntWalk.wrap64_in _ (by omega)
  have ew2 : wrap64 (n : Int) = n := IntWalk.wrap64_in _ (by omega)
  have hnli : (n : Int) < f.keys.length := by omega
  have HKY := Lib.hid hksz
  clear hk0 hn hka hkx hle hmo hwb hksz
  have x1 := fun st : ExtW w7 => st.cell e1
  have x2 := fun st : ExtW w7 => st.cell hkc
  clear e0 e1 e2 e3 e4 e5 hkc HFK
  refine wp_region_ext (by kernel_rfl) (by kernel_rfl) ?_
  repeat (go_big_quiet_step (fail))
  refine wpQuiet_nil ?_
  rintro W ⟨⟨W2, hW⟩, rfl⟩
  clear x1 x2
  have H7 := Lib.hid (H7.out.below hW)
  clear hW
  go_upto_region 11 with (fail)
  have H8 := Lib.hid H7.out.base
  clear H7 hnl ht d1 d1n hlm ew ew2 hnli HKS
  rotate_left
  obtain ⟨key, hkey⟩ : ∃ key, key = f.key := ⟨_, rfl⟩
  rw [← hkey] at HFK ⊢
  have HKY := Lib.hid HFK.out
  have H8 := Lib.hid H7.out.base
  clear hkey e0 e1 e2 e3 e4 e5 HFK H7 HKS
  all_goals
    have hrd := reads_any H8.out.ws (by have := HCB.out; omega) key HKY.out HEV.out HVB.out (by show V.its.length ≤ 1000; have := HIL.out; omega) (by show V.nts.length ≤ 1000; rw [HVN.out]; exact Nat.zero_le _) (by show Nsteps V.nts _; rw [HVN.out]; exact fun y hy => by cases hy)
    unfold RdsPost at hrd
    go_upto_region 12 with (go_at_call 68; refine hrd.mono ?_; intro e w8 hh; obtain ⟨r0, s3, hh1, h8, v3, td, vb3, n3, c3, c3b, f8⟩ := hh; subst hh1; have H9 := Lib.hid (H8.out.look h8 f8); have E9 := Lib.hid (And.intro v3 (And.intro td (And.intro vb3 (And.intro n3 c3)))); clear h8 v3 td vb3 n3 c3 c3b f8 hrd)
    clear H8
    have hnw := fun W => newlook_tr key HKY.out 1 (by omega) W
    have HNW := Lib.hid hnw
    go_upto_region 13 with (go_at_call 20; refine (hnw _).mono ?_; intro e w10 hh; obtain ⟨fb0, hh1, a10, b10⟩ := hh; subst hh1; have A10 := Lib.hid a10; have B10 := Lib.hid b10; clear a10 b10 hnw)
    have HB10 : Hid (HrB w0 w10 B V.its b (cntI s.val b) Wy key hb fb0 0 (V.plus p) s3 x0 [] ⟨key, hashOf key, 1, .fst, 0, [], [], 0, [], 0, 0, 0, false, fb0⟩ s3) := Lib.hid
      { m := (H9.out.below B10.out).base, l := LookAt.e (A10.out.lower H9.out.ws.below.size), itsE := rfl, nts := (by show V.nts.length ≤ _; rw [HVN.out]; exact Nat.zero_le _), ns := (by show Nsteps V.nts _; rw [HVN.out]; exact fun y hy => by cases hy), vb := E9.out.2.2.1, bn := (by have := E9.out.2.2.2.1; have := HCB.out; omega), bc := (by have := E9.out.2.2.2.2; have := HCB.out; omega), hs := HHS.out.val E9.out.1, li := LInv.new _ _ _, lo := LOk.new key 1 (by omega) fb0, keyE := rfl, see := (fun hp => by unfold Ptd at hp; simp at hp) }
    have HTD : Hid (Told V.its s.val key r0) := Lib.hid (by have := E9.out.2.1; rw [HV2.out] at this; exact this)
    clear H9 A10 B10 E9 HCB HHS HEV HVB HVN
    go_wp2_with fail
    go_loopw [10, 11] (fun v10 v11 wr => ∃ (k fb : Nat) (V' : WV) (s' : CS) (x : HP) (qs : List (Nat × Dg)) (y : LK) (s3 : CS), v11 = .int .i64 k ∧ v10 = .pointer (some ⟨fb, 0, none⟩) ∧ k ≤ f.steps.length ∧ HrB w0 wr B V.its b (cntI s.val b) Wy key hb fb k V' s' x qs y s3 ∧ y.ph ≠ .off) (fun _ i _ => 1000 - (intOf i).toNat)
    case atStart => exact ⟨0, fb0, _, _, _, _, _, _, rfl, rfl, Nat.zero_le _, HB10.out, fun c => by cases c⟩
    case round =>
      clear HB10
      obtain ⟨k, fb, V', s', x, qs, y, s3, rfl, rfl, hk, hR, hoff⟩ := hrel
      obtain ⟨-, -, -, -, -, e5⟩ := ful_cells (HZF.out _ hR.m.ws.below)
      have hsl := HSL.out
      have HR := Lib.hid hR; have HO := Lib.hid hoff
      clear hR hoff
      by_cases hlt : k < f.steps.length
      · obtain ⟨sb, so, hsa, hb8, hbc⟩ := ((HRF.out _ HR.out.m.ws.below).steps).getH k hlt
        rw [hsa] at e5
        clear hsa
        have hlt' : (k : Int) < f.steps.length := by omega
        have hk4 : (k : Int) < 1000 := by omega
        generalize f.steps.getD k 0 = bb at *
        have HK := Lib.hid hlt
        by_cases h3 : bb.tmod 3 = 0
        · have d3 : (bb.tmod 3 == 0) = true := beq_iff_eq.2 h3
          by_cases hl : x.left = 0
          · have hst := hpstep_over HR.out.m.hp hl (.pointer (some ⟨B.wb, 0, none⟩))
            clear h3 hl hsl hlt hb8
            go_wp2_with (go_at_call 69; refine hst.mono ?_; intro e w' hh; obtain ⟨hh1, hh2⟩ := hh; subst hh1; obtain rfl := hh2.symm; clear hst)
            go_roundw
            case rel => exact ⟨k + 1, _, _, _, _, _, _, _, by go_num, rfl, HK.out, HR.out.up, HO.out⟩
            case measure => have := HK.out; have := HSL.out; simp [intOf]; omega
          · obtain ⟨hgo, hway, -, -, -⟩ := HR.out.hs.step HIL.out hl HR.out.vb (by have := HR.out.bc; omega)
            have hst := hpstep HR.out.m (HR.out.room (by omega)) HR.out.m.ws.below.size hl (by rw [hway]; exact HWF.out) (hpgo_is hgo).2
            have HH := Lib.hid (fun (W' : World) (qs' : List (Nat × Dg)) => HR.out.hstep (W' := W') (qs' := qs') (by omega) HIL.out hl)
            generalize ((((x.next s').2.left : Nat) : Int) == 0) = dd at hst
            clear h3 hl hsl hlt hb8 hgo hway
            go_wp2_with (go_at_call 69; refine hst.mono ?_; intro e w6 hh; obtain ⟨qs', hh1, h6⟩ := hh; subst hh1; have H6 := Lib.hid (HH.out _ _ h6); clear h6 hst)
            go_roundw
            case rel => exact ⟨k + 1, _, _, _, _, _, _, _, by go_num, rfl, HK.out, H6.out, HO.out⟩
            case measure => have := HK.out; have := HSL.out; simp [intOf]; omega
        · have d3 : (bb.tmod 3 == 0) = false := beq_eq_false_iff_ne.2 h3
          have hls := lstepK HR.out.m.ws (HR.out.room (by omega)) HR.out.l HR.out.lo (by rw [HR.out.itsE]; have := HIL.out; omega) (by have := HR.out.nts; omega) HR.out.ns HO.out
          have hsb := fun (W' : World) => HR.out.lstep (W' := W') HIL.out HO.out
          rw [HR.out.itsE] at hls
          obtain ⟨X, hX⟩ : ∃ X, X = lnX V.its s' y 0 := ⟨_, rfl⟩
          obtain ⟨V2, hV2⟩ : ∃ V2, V2 = lnV V' s' y := ⟨_, rfl⟩
          obtain ⟨s2', hs2⟩ : ∃ s2', s2' = lnS s' y := ⟨_, rfl⟩
          obtain ⟨s4, hs4⟩ : ∃ s4, s4 = (if y.ph = .thd then lnS s' y else s3) := ⟨_, rfl⟩
          rw [← hX, ← hV2, ← hs2] at hls
          rw [← hs4, ← hX, ← hV2, ← hs2] at hsb
          have HSB := Lib.hid hsb
          clear h3 hsl hlt hb8 hX hV2 hs2 hs4 hsb
          by_cases hov : X.ph = .off
          · rw [decide_eq_true hov] at hls
            have HOV := Lib.hid hov
            clear hov
            go_upto_region 19 with (go_at_call 26; refine hls.mono ?_; intro e w6 hh; obtain ⟨hh1, h6, l6, f6⟩ := hh; subst hh1; have H6 := Lib.hid (HSB.out _ h6 l6 f6); clear h6 l6 f6 hls)
            have hgt := lgotE H6.out.l
            have hfl := Lib.hid (fun (W : World) (h : LookE W w0.heap.size fb X) => lfailsE h)
            obtain ⟨r1, hr1⟩ : ∃ r1, r1 = X.got.1 := ⟨_, rfl⟩
            obtain ⟨bd, hbd⟩ : ∃ bd, bd = X.bad := ⟨_, rfl⟩
            rw [← hr1] at hgt
            rw [← hbd] at hfl
            generalize X.got.2.1 = g1 at *
            generalize X.got.2.2 = g2 at *
            have HF : Hid (bd = true ∨ bd = false ∧ r1 = r0) := by
              cases hb2 : X.bad
              · right
                have hev := off_even H6.out.li HOV.out hb2
                obtain ⟨-, -, o3⟩ := off_law H6.out.li HOV.out hb2
                have hg : X.got = (X.ref, X.ep, X.pt) := by unfold LK.got; rw [if_pos ⟨HOV.out, hb2⟩]
                rw [hg] at hr1
                rw [H6.out.keyE] at o3 hev
                have hsee := H6.out.see (.inr (.inr (.inr (.inr ⟨HOV.out, hb2⟩))))
                refine ⟨by rw [hbd, hb2], ?_⟩
                rw [hr1]
                exact told_same HFT.out HCLN.out HIL.out hsee hev o3 HTD.out
              · left; rw [hbd, hb2]
            clear hr1 hbd HSB
            go_upto_region 20 with (go_at_call 37; refine hgt.mono ?_; intro e w8 hh; obtain ⟨hh1, b8⟩ := hh; subst hh1; have H8 := Lib.hid (H6.out.below b8); clear b8 hgt)
            clear H6
            have hf8 := hfl.out _ H8.out.l
            have hnw := HNW.out
            clear hfl
            rcases HF.out with rfl | ⟨rfl, rfl⟩
            all_goals
              go_wp2_with (first
                | (go_at_call 39; refine hf8.mono ?_; intro e w' hh; obtain ⟨hh1, hh2⟩ := hh; subst hh1; obtain rfl := hh2.symm; clear hf8)
                | (go_at_call 20; refine (hnw _).mono ?_; intro e w9 hh; obtain ⟨fb9, hh1, a9, b9⟩ := hh; subst hh1; have H9 := Lib.hid (H8.out.new b9 (by omega) a9); clear a9 b9 hnw))
              go_roundw
              case rel => exact ⟨k + 1, fb9, _, _, _, _, _, _, by go_num, rfl, HK.out, H9.out, fun c => by cases c⟩
              case measure => have := HK.out; have := HSL.out; simp [intOf]; omega
          · rw [decide_eq_false hov] at hls
            have HOV := Lib.hid hov
            clear hov
            go_wp2_with (go_at_call 26; refine hls.mono ?_; intro e w6 hh; obtain ⟨hh1, h6, l6, f6⟩ := hh; subst hh1; have H6 := Lib.hid (HSB.out _ h6 l6 f6); clear h6 l6 f6 hls)
            go_roundw
            case rel => exact ⟨k + 1, _, _, _, _, _, _, _, by go_num, rfl, HK.out, H6.out, HOV.out⟩
            case measure => have := HK.out; have := HSL.out; simp [intOf]; omega
      · obtain rfl : k = f.steps.length := by omega
        clear hlt hk
        go_wp2_with (go_at_call 65; refine (lives17 _).mono ?_; rintro e w6 ⟨rfl, b6⟩)
        go_ret
        have h1 := HBB.out.trans (HR.out.m.ws.below.mono HBB.out.size)
        exact ⟨rfl, h1.trans (b6.mono h1.size)⟩
set_option maxRecDepth 10000 in
theorem walkHopsRead {H1 : Type} (w : World) (enc : TypeId × Value → H1) (base : Nat) (v : Value) (d : DataW H1) (p : List MemPlace) (k : DataW.Trod enc Tryz.prog w 0 (fun _ => true) true 130 v d p) (o : Value.okWide Tryz.prog w .any base 130 v) (n : Int) (hn : (Lit.int .u8 n).wf = true) :
    Calls Tryz.prog 9 #[v, .int .u8 n] w fun e w' => e = .returned (.bool true) ∧ Below w.heap.size w w' := by
  obtain ⟨f, rfl, hr⟩ := ful_open k o
  exact hread_any f n (by
    have hmin : IntKind.u8.min = 0 := rfl
    have hmax : IntKind.u8.max = 255 := rfl
    simp only [Lit.wf, Bool.and_eq_true, decide_eq_true_eq] at hn; omega) w hr
end Go.Proofs.YtdbgfidnccpmdaaGreat
