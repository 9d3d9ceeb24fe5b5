/-
  Texts of this prover, merged: HopLaw, HopWay, StandLaw, Lay, MapStr, Full, FullGreat, FullWorld, PathsRun, SpRows, FullWay, HopLives.
-/
import Derived.Test.YtdbgfidnccpmdaaGreatRA
import Derived.Test.YtdbgfidnccpmdaaGreatP3
import Derived.Test.YtdbgfidnccpmdaaGreatP1
import Derived.Test.YtdbgfidnccpmdaaGreatMapPtr
import Derived.Test.YtdbgfidnccpmdaaGreatRB
import Derived.Test.YtdbgfidnccpmdaaGreatWorldLives
import Derived.Test.YtdbgfidnccpmdaaGreatOpen
import Derived.Test.YtdbgfidnccpmdaaGreatRows
import Derived.Test.YtdbgfidnccpmdaaGreatLib
import Derived.Test.YtdbgfidnccpmdaaGreatCellsWords0
import Derived.Test.YtdbgfidnccpmdaaGreatRefNew
import Derived.Test.YtdbgfidnccpmdaaGreatSame
import Derived.Deep.RegionHeld2
import Derived.Maps.Own
import Derived.Maps.RangeWalk
import Derived.StringKeys
import Derived.Deep.DeepCutAuto
import Derived.Deep.CutBlock
import Derived.Shelf.SlSortCmp.WholeK
/-
  A hop, step by step: what it leaves; the plain law.
-/
namespace Go.Proofs.YtdbgfidnccpmdaaGreat
open Go.RowKit Go.Maps TagPure
set_option linter.unusedVariables false

theorem upd_me (f : Int → Int) (a : Int) : upd f a (f a) = f := by
  funext z; unfold upd; split
  · rename_i h; rw [h]
  · rfl
/-! ## Slots. -/
/-- What a slot says: its tag, its item. -/
def slA (v : Int → Int) (b u k : Int) : Int × Int := (tagOf (v (tagsA b u)) k, v (itemA b u k))
/-- Is there such a slot? -/
structure SIn (b u k : Int) : Prop where
  b1 : 1 ≤ b
  b3 : b ≤ 3
  u0 : 0 ≤ u
  u1 : u < tsize b
  k0 : 0 ≤ k
  k1 : k < 4
theorem SIn.size {b u k : Int} (h : SIn b u k) : 2 ≤ tsize b ∧ tsize b ≤ 8 := by
  have := h.b3
  rcases four (b := b) ⟨h.b1, by omega⟩ with ⟨h1, h2⟩ | ⟨h1, h2⟩ | ⟨h1, h2⟩ | ⟨h1, h2⟩ <;> omega
theorem SIn.tags {b u k : Int} (h : SIn b u k) : tagsA b u = 4096 + 8 * (tsize b + u) := tags_at ⟨h.u0, h.u1⟩
theorem SIn.item {b u k : Int} (h : SIn b u k) : itemA b u k = 4096 + 8 * (tsize b + u) + 1 + k := item_at ⟨h.u0, h.u1⟩ ⟨h.k0, h.k1⟩
theorem SIn.other {b u k k' : Int} (h : SIn b u k) (h0 : 0 ≤ k' ∧ k' < 4) : SIn b u k' := ⟨h.b1, h.b3, h.u0, h.u1, h0.1, h0.2⟩
theorem SIn.has {b u k : Int} (h : SIn b u k) : hasP b u = true := by unfold hasP; simp [h.u0, h.u1]
theorem SIn.sof {b u k : Int} (h : SIn b u k) : sof b u k = ⟨tagsA b u, itemA b u k, k, 0, 0⟩ := by
  have h1 := h.item
  have h2 := h.size
  have h3 := h.u0
  have h4 := h.k0
  unfold Go.Proofs.YtdbgfidnccpmdaaGreat.sof
  rw [if_neg (by omega)]
theorem SIn.ver {b u k : Int} (h : SIn b u k) : 64 ≤ ver b u ∧ ver b u < 128 := by
  unfold Go.Proofs.YtdbgfidnccpmdaaGreat.ver
  rw [if_pos h.has]
  unfold stripe
  omega
theorem tagOf_bd (x k : Int) : 0 ≤ tagOf x k ∧ tagOf x k ≤ 255 := by
  unfold tagOf tg
  split <;> omega
/-! ## Versions. -/
def bump (xs : List Int) (v : Int → Int) : Int → Int := fun a => if a ∈ xs then wu (v a + 1) else v a
theorem bump_nil (v : Int → Int) : bump [] v = v := by funext a; simp [bump]
theorem bump_snoc {xs : List Int} {a : Int} (v : Int → Int) (h : a ∉ xs) : upd (bump xs v) a (wu (bump xs v a + 1)) = bump (xs ++ [a]) v := by
  funext x
  unfold upd bump
  by_cases hx : x = a
  · subst hx
    rw [if_pos rfl, if_neg h, if_pos (by simp)]
  · rw [if_neg hx]
    by_cases h2 : x ∈ xs
    · rw [if_pos h2, if_pos (by simp [h2])]
    · rw [if_neg h2, if_neg (by simp [h2, hx])]
theorem bump_out {xs : List Int} {a : Int} (v : Int → Int) (h : a ∉ xs) : bump xs v a = v a := if_neg h
theorem bump_far {xs : List Int} (v : Int → Int) (h : ∀ x ∈ xs, x < 128) {a : Int} (ha : 128 ≤ a) : bump xs v a = v a := bump_out v fun c => by have := h a c; omega
theorem bump_odd {xs : List Int} {v : Int → Int} {a : Int} (h : a ∈ xs) (he : v a % 2 = 0) (hb : 0 ≤ v a ∧ v a < 18446744073709551616) : bump xs v a % 2 = 1 := by
  unfold bump
  rw [if_pos h, wu_eq]; omega
theorem bump_even {xs : List Int} {v : Int → Int} {a : Int} (h : a ∈ xs) (he : v a % 2 = 1) (hb : 0 ≤ v a ∧ v a < 18446744073709551616) : bump xs v a % 2 = 0 := by
  unfold bump
  rw [if_pos h, wu_eq]; omega
theorem sl_bump {xs : List Int} (v : Int → Int) (h : ∀ x ∈ xs, x < 128) {b u k : Int} (hs : SIn b u k) : slA (bump xs v) b u k = slA v b u k := by
  have h1 := hs.tags; have h2 := hs.item; have h3 := hs.size; have h4 := hs.u0; have h5 := hs.k0
  unfold slA
  rw [bump_far v h (by omega), bump_far v h (by omega)]
/-! ## What a hop writes. -/
def hvo (v : Int → Int) (b u k : Int) : Int → Int := upd v (tagsA b u) (withOf (v (tagsA b u)) k 0)
def hvi (v : Int → Int) (b u k : Int) (r : Int) : Int → Int := upd v (itemA b u k) r
def hvt (v : Int → Int) (b u k : Int) (t : Int) : Int → Int := upd v (tagsA b u) (withOf (v (tagsA b u)) k t)
theorem sl_set {v : Int → Int} {b u k t r : Int} (hs : SIn b u k) (ht : 0 ≤ t ∧ t ≤ 255) (h0 : 0 ≤ v (tagsA b u)) {u' k' : Int} (hs' : SIn b u' k') {v' : Int → Int}
    (h1 : v' (tagsA b u) = withOf (v (tagsA b u)) k t) (h2 : v' (itemA b u k) = r) (h3 : ∀ x, x ≠ tagsA b u → x ≠ itemA b u k → v' x = v x) : slA v' b u' k' = if u' = u ∧ k' = k then (t, r) else slA v b u' k' := by
  have e1 := hs.tags; have e2 := hs.item; have e3 := hs'.tags; have e4 := hs'.item
  have b1 := hs.k0; have b2 := hs.k1; have b3 := hs'.k0; have b4 := hs'.k1
  unfold slA
  by_cases hu : u' = u
  · subst hu
    rw [h1, tag_with _ _ _ _ h0 ⟨b1, b2⟩ ⟨b3, b4⟩ ht]
    by_cases hk : k' = k
    · subst hk
      rw [if_pos rfl, if_pos ⟨rfl, rfl⟩, h2]
    · rw [if_neg hk, if_neg (fun c => hk c.2), h3 _ (by omega) (by omega)]
  · rw [if_neg (fun c => hu c.1), h3 _ (by omega) (by omega), h3 _ (by omega) (by omega)]
/-- Behind an Out. -/
def hv1 (v : Int → Int) (b u k : Int) : Int → Int := hvi (hvo v b u k) b u k 0
/-- Behind a Put. -/
def hv2 (v : Int → Int) (b u k t r : Int) : Int → Int := hvt (hvi v b u k r) b u k t
theorem tags_ne_item {b u k : Int} (hs : SIn b u k) : tagsA b u ≠ itemA b u k := by
  have := hs.tags; have := hs.item; have := hs.k0; omega
theorem sl_hv1 {v : Int → Int} {b u k : Int} (hs : SIn b u k) (h0 : 0 ≤ v (tagsA b u)) {u' k' : Int} (hs' : SIn b u' k') : slA (hv1 v b u k) b u' k' = if u' = u ∧ k' = k then (0, 0) else slA v b u' k' := by
  have hne := tags_ne_item hs
  refine sl_set hs (by omega) h0 hs' ?_ ?_ ?_
  · unfold hv1 hvi hvo
    rw [upd_other _ hne, upd_same]
  · unfold hv1 hvi hvo
    rw [upd_same]
  · intro x h1 h2
    unfold hv1 hvi hvo
    rw [upd_other _ h2, upd_other _ h1]
theorem sl_hv2 {v : Int → Int} {b u k t r : Int} (hs : SIn b u k) (ht : 0 ≤ t ∧ t ≤ 255) (h0 : 0 ≤ v (tagsA b u)) {u' k' : Int} (hs' : SIn b u' k') : slA (hv2 v b u k t r) b u' k' = if u' = u ∧ k' = k then (t, r) else slA v b u' k' := by
  have hne := tags_ne_item hs
  refine sl_set hs ht h0 hs' ?_ ?_ ?_
  · unfold hv2 hvt hvi
    rw [upd_same, upd_other _ hne]
  · unfold hv2 hvt hvi
    rw [upd_other _ hne.symm, upd_same]
  · intro x h1 h2
    unfold hv2 hvt hvi
    rw [upd_other _ h1, upd_other _ h2]
theorem hv1_far {v : Int → Int} {b u k : Int} (hs : SIn b u k) {a : Int} (ha : a < 4096) : hv1 v b u k a = v a := by
  have e1 := hs.tags; have e2 := hs.item; have e3 := hs.size; have e4 := hs.u0; have e5 := hs.k0
  unfold hv1 hvi hvo
  rw [upd_other _ (by omega), upd_other _ (by omega)]
theorem hv2_far {v : Int → Int} {b u k t r : Int} (hs : SIn b u k) {a : Int} (ha : a < 4096) : hv2 v b u k t r a = v a := by
  have e1 := hs.tags; have e2 := hs.item; have e3 := hs.size; have e4 := hs.u0; have e5 := hs.k0
  unfold hv2 hvt hvi
  rw [upd_other _ (by omega), upd_other _ (by omega)]
/-! ## The steps of a hop. -/
section
variable (W : List (Int × Int × Int)) (j : Nat) (b u k u' k' t r : Int) (vs : List Int) (v0 : Int → Int)
def hopV1 : Int → Int := hv1 (bump vs v0) b u k
def hopV2 : Int → Int := hv2 (hopV1 b u k vs v0) b u' k' t r
/-- Where a hop stands, and how many steps it has left. -/
inductive HI : CS → HP → Nat → Prop
  | a (s : CS) (tg : Int) (h : s.val = v0) : HI s ⟨W, j + 1, tg, false, []⟩ (8 + 2 * vs.length)
  | b (s : CS) (h : s.val = v0) : HI s ⟨W, j + 1, t, true, []⟩ (7 + 2 * vs.length)
  | m1 (s : CS) (ys : List Int) (x : Int) (xs : List Int) (he : vs = ys ++ x :: xs) (h : s.val = bump ys v0) : HI s ⟨W, j + 1, t, true, [.mark (x :: xs), .out ⟨tagsA b u, itemA b u k, k, 0, 0⟩, .put ⟨tagsA b u', itemA b u' k', k', 0, 0⟩ t r, .mark vs]⟩ (xs.length + 1 + 6 + vs.length)
  | o0 (s : CS) (h : s.val = bump vs v0) : HI s ⟨W, j + 1, t, true, [.out ⟨tagsA b u, itemA b u k, k, 0, 0⟩, .put ⟨tagsA b u', itemA b u' k', k', 0, 0⟩ t r, .mark vs]⟩ (6 + vs.length)
  | o1 (s : CS) (h : s.val = bump vs v0) : HI s ⟨W, j + 1, t, true, [.out ⟨tagsA b u, itemA b u k, k, bump vs v0 (tagsA b u), 1⟩, .put ⟨tagsA b u', itemA b u' k', k', 0, 0⟩ t r, .mark vs]⟩ (5 + vs.length)
  | o2 (s : CS) (h : s.val = hvo (bump vs v0) b u k) : HI s ⟨W, j + 1, t, true, [.out ⟨tagsA b u, itemA b u k, k, bump vs v0 (tagsA b u), 2⟩, .put ⟨tagsA b u', itemA b u' k', k', 0, 0⟩ t r, .mark vs]⟩ (4 + vs.length)
  | p0 (s : CS) (h : s.val = hopV1 b u k vs v0) : HI s ⟨W, j + 1, t, true, [.put ⟨tagsA b u', itemA b u' k', k', 0, 0⟩ t r, .mark vs]⟩ (3 + vs.length)
  | p1 (s : CS) (h : s.val = hvi (hopV1 b u k vs v0) b u' k' r) : HI s ⟨W, j + 1, t, true, [.put ⟨tagsA b u', itemA b u' k', k', 0, 1⟩ t r, .mark vs]⟩ (2 + vs.length)
  | p2 (s : CS) (h : s.val = hvi (hopV1 b u k vs v0) b u' k' r) : HI s ⟨W, j + 1, t, true, [.put ⟨tagsA b u', itemA b u' k', k', hvi (hopV1 b u k vs v0) b u' k' r (tagsA b u'), 2⟩ t r, .mark vs]⟩ (1 + vs.length)
  | m2 (s : CS) (ys : List Int) (x : Int) (xs : List Int) (he : vs = ys ++ x :: xs) (h : s.val = bump ys (hopV2 b u k u' k' t r vs v0)) : HI s ⟨W, j + 1, t, true, [.mark (x :: xs)]⟩ (xs.length + 1)
end
/-- What must hold of a hop's two slots. -/
structure HopOk (W : List (Int × Int × Int)) (j : Nat) (b u k u' k' t r : Int) (vs : List Int) (v0 : Int → Int) : Prop where
  p : W[j]? = some (b, u, k)
  q : W[j + 1]? = some (b, u', k')
  pi : SIn b u k
  qi : SIn b u' k'
  ne : u ≠ u'
  tg : t = tagOf (v0 (tagsA b u)) k
  t1 : 1 ≤ t
  rf : r = v0 (itemA b u k)
  r1 : 1 ≤ r
  r2 : r ≤ 1000
  vs_ : vs = vof [(b, u), (b, u')]
  bd : ∀ a, 0 ≤ v0 a ∧ v0 a < 18446744073709551616
  ev : ∀ a, 64 ≤ a → a < 128 → v0 a % 2 = 0
theorem vof_two {a c : Int × Int} (ha : ver a.1 a.2 ≠ 0) (hc : ver c.1 c.2 ≠ 0) : vof [a, c] = if ver c.1 c.2 = ver a.1 a.2 then [ver a.1 a.2] else [ver a.1 a.2, ver c.1 c.2] := by
  have e1 : vstep [] a = [ver a.1 a.2] := by unfold vstep; rw [if_neg ha]; simp
  show vstep (vstep [] a) c = _
  rw [e1]
  unfold vstep
  rw [if_neg hc]
  by_cases h : ver c.1 c.2 = ver a.1 a.2
  · rw [if_pos h, if_pos (by simp [h])]
  · rw [if_neg h, if_neg (by simpa using h)]; rfl
section
variable {W : List (Int × Int × Int)} {j : Nat} {b u k u' k' t r : Int} {vs : List Int} {v0 : Int → Int} (H : HopOk W j b u k u' k' t r vs v0)
include H
theorem HopOk.vs2 : vs = if ver b u' = ver b u then [ver b u] else [ver b u, ver b u'] := by
  have h1 := H.pi.ver; have h2 := H.qi.ver
  rw [H.vs_, vof_two (by show ver b u ≠ 0; omega) (by show ver b u' ≠ 0; omega)]
theorem HopOk.nodup : vs.Nodup := by
  rw [H.vs2]; split
  · simp
  · rename_i h; simp [Ne.symm h]
theorem HopOk.low : ∀ x ∈ vs, 64 ≤ x ∧ x < 128 := by
  have h1 := H.pi.ver; have h2 := H.qi.ver
  intro x hx
  rw [H.vs2] at hx
  split at hx
  · simp only [List.mem_singleton] at hx; subst hx; exact h1
  · simp only [List.mem_cons, List.not_mem_nil, or_false] at hx
    rcases hx with rfl | rfl
    · exact h1
    · exact h2
theorem HopOk.len : 1 ≤ vs.length ∧ vs.length ≤ 2 := by
  rw [H.vs2]; split <;> simp
theorem HopOk.mem : ver b u ∈ vs ∧ ver b u' ∈ vs := by
  rw [H.vs2]; split
  · rename_i h; simp [h]
  · simp
theorem HopOk.tb : 1 ≤ t ∧ t ≤ 255 := by
  have := tagOf_bd (v0 (tagsA b u)) k
  have := H.tg; have := H.t1
  omega
theorem HopOk.b0 (ys : List Int) : ∀ a, 0 ≤ bump ys v0 a ∧ bump ys v0 a < 18446744073709551616 := fun a => by
  have := H.bd a
  unfold bump
  split
  · rw [wu_eq]; omega
  · exact this
/-- A step: on to the next one, or the hop is over. -/
theorem HI.step {s : CS} {x : HP} {n : Nat} (h : HI W j b u k u' k' t r vs v0 s x n) : x.left = j + 1 ∧ x.way = W ∧ hpgo x = true ∧ 1 ≤ n ∧
    (n = 1 → (x.next s).1.val = bump vs (hopV2 b u k u' k' t r vs v0) ∧ (x.next s).2 = ⟨W, j, t, false, []⟩) ∧ (2 ≤ n → HI W j b u k u' k' t r vs v0 (x.next s).1 (x.next s).2 (n - 1)) := by
  have hpA := H.pi.tags; have hpI := H.pi.item; have hqA := H.qi.tags; have hqI := H.qi.item
  have hz := H.pi.size; have hu0 := H.pi.u0; have hk0 := H.pi.k0; have hv0 := H.qi.u0; have hw0 := H.qi.k0
  have hlen := H.len
  have htb := H.tb
  have hpz : (tagsA b u == 0) = false := beq_eq_false_iff_ne.2 (by omega)
  have hqz : (tagsA b u' == 0) = false := beq_eq_false_iff_ne.2 (by omega)
  have hnd := H.nodup
  obtain ⟨x0, xr, hvs⟩ : ∃ x0 xr, vs = x0 :: xr := by
    cases h : vs with
    | nil => rw [h] at hlen; simp at hlen
    | cons a r => exact ⟨a, r, rfl⟩
  have hrow : ({ way := W, left := j + 1, tag := t, load := true, l := [] } : HP).row (b, u, k) (b, u', k') (wrap64 (v0 (itemA b u k))) = [.mark vs, .out ⟨tagsA b u, itemA b u k, k, 0, 0⟩, .put ⟨tagsA b u', itemA b u' k', k', 0, 0⟩ t r, .mark vs] := by
    have hr1 := H.r1; have hr2 := H.r2; have hrf := H.rf
    unfold HP.row hsput
    dsimp only
    rw [show wrap64 (v0 (itemA b u k)) = r by rw [← hrf]; exact IntWalk.wrap64_in _ (by omega), if_neg (by omega), H.pi.sof, H.qi.sof, ← H.vs_]
  have hn1 : (W[j + 1 - 1]?) = some (b, u, k) := by rw [Nat.add_sub_cancel]; exact H.p
  cases h with
  | a tg hs =>
    refine ⟨rfl, rfl, by simp [hpgo], by omega, by omega, fun _ => ?_⟩
    have e : (({ way := W, left := j + 1, tag := tg, load := false, l := [] } : HP).next s) = (s.acc 1 (tagsA b u) (s.val (tagsA b u)), { way := W, left := j + 1, tag := tagOf (s.val (tagsA b u)) k, load := true, l := [] }) := by
      unfold HP.next
      simp only [hn1, H.q]
      rfl
    rw [e, hs, ← H.tg]
    have hv : (s.acc 1 (tagsA b u) (v0 (tagsA b u))).val = v0 := by
      rw [← hs]; exact upd_me _ _
    have := HI.b (W := W) (j := j) (b := b) (u := u) (k := k) (u' := u') (k' := k') (t := t) (r := r) (vs := vs) (v0 := v0) _ hv
    rw [show 8 + 2 * vs.length - 1 = 7 + 2 * vs.length by omega]
    exact this
  | b hs =>
    refine ⟨rfl, rfl, by simp [hpgo], by omega, by omega, fun _ => ?_⟩
    have e : (({ way := W, left := j + 1, tag := t, load := true, l := [] } : HP).next s) = (s.acc 1 (itemA b u k) (s.val (itemA b u k)), { way := W, left := j + 1, tag := t, load := true, l := [.mark vs, .out ⟨tagsA b u, itemA b u k, k, 0, 0⟩, .put ⟨tagsA b u', itemA b u' k', k', 0, 0⟩ t r, .mark vs] }) := by
      unfold HP.next
      simp only [hn1, H.q]
      rw [if_neg (by decide), hs, hrow]
      unfold HP.on
      simp [hvs, Dg.over]
    rw [e]
    have hv : (s.acc 1 (itemA b u k) (s.val (itemA b u k))).val = bump [] v0 := by rw [bump_nil, ← hs]; exact upd_me _ _
    have := HI.m1 (W := W) (j := j) (b := b) (u := u) (k := k) (u' := u') (k' := k') (t := t) (r := r) (vs := vs) (v0 := v0) _ [] x0 xr hvs hv
    rw [← hvs, show xr.length + 1 + 6 + vs.length = 7 + 2 * vs.length - 1 by rw [hvs]; simp; omega] at this
    exact this
  | m1 ys x xs he hs =>
    refine ⟨rfl, rfl, by simp [hpgo, Dg.over], by omega, by omega, fun _ => ?_⟩
    have hx : x ∉ ys := by
      rw [he] at hnd
      have := (List.nodup_append.1 hnd).2.2
      exact fun c => this x c x (by simp) rfl
    have hv : (s.acc 4 x (wu (s.val x + 1))).val = bump (ys ++ [x]) v0 := by rw [← bump_snoc v0 hx, ← hs]; rfl
    cases xs with
    | nil =>
      have e : (({ way := W, left := j + 1, tag := t, load := true, l := [.mark [x], .out ⟨tagsA b u, itemA b u k, k, 0, 0⟩, .put ⟨tagsA b u', itemA b u' k', k', 0, 0⟩ t r, .mark vs] } : HP).next s) = (s.acc 4 x (wu (s.val x + 1)), { way := W, left := j + 1, tag := t, load := true, l := [.out ⟨tagsA b u, itemA b u k, k, 0, 0⟩, .put ⟨tagsA b u', itemA b u' k', k', 0, 0⟩ t r, .mark vs] }) := by
        unfold HP.next HP.on
        simp [Dg.step, Dg.over, hpz]
      rw [e]
      rw [← he] at hv
      have := HI.o0 (W := W) (j := j) (b := b) (u := u) (k := k) (u' := u') (k' := k') (t := t) (r := r) (vs := vs) (v0 := v0) _ hv
      rw [show ([] : List Int).length + 1 + 6 + vs.length - 1 = 6 + vs.length by rw [List.length_nil]; omega]
      exact this
    | cons y ys' =>
      have e : (({ way := W, left := j + 1, tag := t, load := true, l := [.mark (x :: y :: ys'), .out ⟨tagsA b u, itemA b u k, k, 0, 0⟩, .put ⟨tagsA b u', itemA b u' k', k', 0, 0⟩ t r, .mark vs] } : HP).next s) = (s.acc 4 x (wu (s.val x + 1)), { way := W, left := j + 1, tag := t, load := true, l := [.mark (y :: ys'), .out ⟨tagsA b u, itemA b u k, k, 0, 0⟩, .put ⟨tagsA b u', itemA b u' k', k', 0, 0⟩ t r, .mark vs] }) := by
        unfold HP.next HP.on
        simp [Dg.step, Dg.over]
      rw [e]
      have := HI.m1 (W := W) (j := j) (b := b) (u := u) (k := k) (u' := u') (k' := k') (t := t) (r := r) (vs := vs) (v0 := v0) _ (ys ++ [x]) y ys' (by rw [he]; simp) hv
      rw [show (y :: ys').length + 1 + 6 + vs.length - 1 = ys'.length + 1 + 6 + vs.length by rw [List.length_cons]; omega]
      exact this
  | o0 hs =>
    refine ⟨rfl, rfl, by simp [hpgo, Dg.over, hpz], by omega, by omega, fun _ => ?_⟩
    have e : (({ way := W, left := j + 1, tag := t, load := true, l := [.out ⟨tagsA b u, itemA b u k, k, 0, 0⟩, .put ⟨tagsA b u', itemA b u' k', k', 0, 0⟩ t r, .mark vs] } : HP).next s) = (s.acc 1 (tagsA b u) (s.val (tagsA b u)), { way := W, left := j + 1, tag := t, load := true, l := [.out ⟨tagsA b u, itemA b u k, k, s.val (tagsA b u), 1⟩, .put ⟨tagsA b u', itemA b u' k', k', 0, 0⟩ t r, .mark vs] }) := by
      unfold HP.next HP.on
      simp [Dg.step, Dg.over, hpz]
    rw [e]
    have hv : (s.acc 1 (tagsA b u) (s.val (tagsA b u))).val = bump vs v0 := by rw [← hs]; exact upd_me _ _
    have := HI.o1 (W := W) (j := j) (b := b) (u := u) (k := k) (u' := u') (k' := k') (t := t) (r := r) (vs := vs) (v0 := v0) _ hv
    rw [show 6 + vs.length - 1 = 5 + vs.length by omega, hs]
    rw [hs] at this
    exact this
  | o1 hs =>
    refine ⟨rfl, rfl, by simp [hpgo, Dg.over, hpz], by omega, by omega, fun _ => ?_⟩
    have e : (({ way := W, left := j + 1, tag := t, load := true, l := [.out ⟨tagsA b u, itemA b u k, k, bump vs v0 (tagsA b u), 1⟩, .put ⟨tagsA b u', itemA b u' k', k', 0, 0⟩ t r, .mark vs] } : HP).next s) = (s.acc 2 (tagsA b u) (withOf (bump vs v0 (tagsA b u)) k 0), { way := W, left := j + 1, tag := t, load := true, l := [.out ⟨tagsA b u, itemA b u k, k, bump vs v0 (tagsA b u), 2⟩, .put ⟨tagsA b u', itemA b u' k', k', 0, 0⟩ t r, .mark vs] }) := by
      unfold HP.next HP.on
      simp [Dg.step, Dg.over, hpz]
    rw [e]
    have hv : (s.acc 2 (tagsA b u) (withOf (bump vs v0 (tagsA b u)) k 0)).val = hvo (bump vs v0) b u k := by
      show upd s.val _ _ = _
      rw [hs]; rfl
    have := HI.o2 (W := W) (j := j) (b := b) (u := u) (k := k) (u' := u') (k' := k') (t := t) (r := r) (vs := vs) (v0 := v0) _ hv
    rw [show 5 + vs.length - 1 = 4 + vs.length by omega]
    exact this
  | o2 hs =>
    refine ⟨rfl, rfl, by simp [hpgo, Dg.over, hpz], by omega, by omega, fun _ => ?_⟩
    have e : (({ way := W, left := j + 1, tag := t, load := true, l := [.out ⟨tagsA b u, itemA b u k, k, bump vs v0 (tagsA b u), 2⟩, .put ⟨tagsA b u', itemA b u' k', k', 0, 0⟩ t r, .mark vs] } : HP).next s) = (s.acc 2 (itemA b u k) 0, { way := W, left := j + 1, tag := t, load := true, l := [.put ⟨tagsA b u', itemA b u' k', k', 0, 0⟩ t r, .mark vs] }) := by
      unfold HP.next HP.on
      simp [Dg.step, Dg.over, hqz]
    rw [e]
    have hv : (s.acc 2 (itemA b u k) 0).val = hopV1 b u k vs v0 := by
      show upd s.val _ _ = _
      rw [hs]; rfl
    have := HI.p0 (W := W) (j := j) (b := b) (u := u) (k := k) (u' := u') (k' := k') (t := t) (r := r) (vs := vs) (v0 := v0) _ hv
    rw [show 4 + vs.length - 1 = 3 + vs.length by omega]
    exact this
  | p0 hs =>
    refine ⟨rfl, rfl, by simp [hpgo, Dg.over, hqz], by omega, by omega, fun _ => ?_⟩
    have e : (({ way := W, left := j + 1, tag := t, load := true, l := [.put ⟨tagsA b u', itemA b u' k', k', 0, 0⟩ t r, .mark vs] } : HP).next s) = (s.acc 2 (itemA b u' k') r, { way := W, left := j + 1, tag := t, load := true, l := [.put ⟨tagsA b u', itemA b u' k', k', 0, 1⟩ t r, .mark vs] }) := by
      unfold HP.next HP.on
      simp [Dg.step, Dg.over, hqz]
    rw [e]
    have hv : (s.acc 2 (itemA b u' k') r).val = hvi (hopV1 b u k vs v0) b u' k' r := by
      show upd s.val _ _ = _
      rw [hs]; rfl
    have := HI.p1 (W := W) (j := j) (b := b) (u := u) (k := k) (u' := u') (k' := k') (t := t) (r := r) (vs := vs) (v0 := v0) _ hv
    rw [show 3 + vs.length - 1 = 2 + vs.length by omega]
    exact this
  | p1 hs =>
    refine ⟨rfl, rfl, by simp [hpgo, Dg.over, hqz], by omega, by omega, fun _ => ?_⟩
    have e : (({ way := W, left := j + 1, tag := t, load := true, l := [.put ⟨tagsA b u', itemA b u' k', k', 0, 1⟩ t r, .mark vs] } : HP).next s) = (s.acc 1 (tagsA b u') (s.val (tagsA b u')), { way := W, left := j + 1, tag := t, load := true, l := [.put ⟨tagsA b u', itemA b u' k', k', s.val (tagsA b u'), 2⟩ t r, .mark vs] }) := by
      unfold HP.next HP.on
      simp [Dg.step, Dg.over, hqz]
    rw [e]
    have hv : (s.acc 1 (tagsA b u') (s.val (tagsA b u'))).val = hvi (hopV1 b u k vs v0) b u' k' r := by rw [← hs]; exact upd_me _ _
    have := HI.p2 (W := W) (j := j) (b := b) (u := u) (k := k) (u' := u') (k' := k') (t := t) (r := r) (vs := vs) (v0 := v0) _ hv
    rw [show 2 + vs.length - 1 = 1 + vs.length by omega, hs]
    rw [hs] at this
    exact this
  | p2 hs =>
    refine ⟨rfl, rfl, by simp [hpgo, Dg.over, hqz], by omega, by omega, fun _ => ?_⟩
    have e : (({ way := W, left := j + 1, tag := t, load := true, l := [.put ⟨tagsA b u', itemA b u' k', k', hvi (hopV1 b u k vs v0) b u' k' r (tagsA b u'), 2⟩ t r, .mark vs] } : HP).next s) = (s.acc 2 (tagsA b u') (withOf (hvi (hopV1 b u k vs v0) b u' k' r (tagsA b u')) k' t), { way := W, left := j + 1, tag := t, load := true, l := [.mark vs] }) := by
      unfold HP.next HP.on
      simp [Dg.step, Dg.over, hqz, hvs]
    rw [e]
    have hv : (s.acc 2 (tagsA b u') (withOf (hvi (hopV1 b u k vs v0) b u' k' r (tagsA b u')) k' t)).val = bump [] (hopV2 b u k u' k' t r vs v0) := by
      rw [bump_nil]
      show upd s.val _ _ = _
      rw [hs]; rfl
    have := HI.m2 (W := W) (j := j) (b := b) (u := u) (k := k) (u' := u') (k' := k') (t := t) (r := r) (vs := vs) (v0 := v0) _ [] x0 xr hvs hv
    rw [← hvs, show xr.length + 1 = 1 + vs.length - 1 by rw [hvs]; simp] at this
    exact this
  | m2 ys x xs he hs =>
    have hx : x ∉ ys := by
      rw [he] at hnd
      have := (List.nodup_append.1 hnd).2.2
      exact fun c => this x c x (by simp) rfl
    have hv : (s.acc 4 x (wu (s.val x + 1))).val = bump (ys ++ [x]) (hopV2 b u k u' k' t r vs v0) := by rw [← bump_snoc _ hx, ← hs]; rfl
    refine ⟨rfl, rfl, by simp [hpgo, Dg.over], by omega, fun hn => ?_, fun hn => ?_⟩
    · obtain rfl : xs = [] := List.eq_nil_of_length_eq_zero (by omega)
      have e : (({ way := W, left := j + 1, tag := t, load := true, l := [.mark [x]] } : HP).next s) = (s.acc 4 x (wu (s.val x + 1)), { way := W, left := j, tag := t, load := false, l := [] }) := by
        unfold HP.next HP.on
        simp [Dg.step, Dg.over]
      rw [e]
      rw [← he] at hv
      exact ⟨hv, rfl⟩
    · obtain ⟨y, ys', rfl⟩ : ∃ y ys', xs = y :: ys' := by
        cases xs with
        | nil => simp at hn
        | cons y ys' => exact ⟨y, ys', rfl⟩
      have e : (({ way := W, left := j + 1, tag := t, load := true, l := [.mark (x :: y :: ys')] } : HP).next s) = (s.acc 4 x (wu (s.val x + 1)), { way := W, left := j + 1, tag := t, load := true, l := [.mark (y :: ys')] }) := by
        unfold HP.next HP.on
        simp [Dg.step, Dg.over]
      rw [e]
      exact HI.m2 (W := W) (j := j) (b := b) (u := u) (k := k) (u' := u') (k' := k') (t := t) (r := r) (vs := vs) (v0 := v0) _ (ys ++ [x]) y ys' (by rw [he]; simp) hv
/-- Behind a hop: its item has gone over. -/
theorem HopOk.moved {a c : Int} (hs : SIn b a c) : slA (bump vs (hopV2 b u k u' k' t r vs v0)) b a c = if a = u' ∧ c = k' then slA v0 b u k else if a = u ∧ c = k then (0, 0) else slA v0 b a c := by
  have hl : ∀ x ∈ vs, x < 128 := fun x hx => (H.low x hx).2
  have hb := H.b0 vs
  have h1 : 0 ≤ hopV1 b u k vs v0 (tagsA b u') := by
    have e1 := H.pi.tags; have e2 := H.pi.item; have e3 := H.qi.tags; have e4 := H.ne; have e5 := H.pi.k0; have e6 := H.pi.k1
    unfold hopV1 hv1 hvi hvo
    rw [upd_other _ (by omega), upd_other _ (by omega)]
    exact (hb _).1
  rw [sl_bump _ hl hs]
  unfold hopV2
  rw [sl_hv2 H.qi (by have := H.tb; omega) h1 hs]
  unfold hopV1
  rw [sl_hv1 H.pi (hb _).1 hs, sl_bump _ hl hs]
  have : slA v0 b u k = (t, r) := by unfold slA; rw [← H.tg, ← H.rf]
  rw [this]
theorem HopOk.far2 {a : Int} (ha : a < 4096) : hopV2 b u k u' k' t r vs v0 a = bump vs v0 a := by
  unfold hopV2
  rw [hv2_far H.qi ha]
  unfold hopV1
  rw [hv1_far H.pi ha]
/-- Versions are even behind it. -/
theorem HopOk.evens : ∀ a, 64 ≤ a → a < 128 → bump vs (hopV2 b u k u' k' t r vs v0) a % 2 = 0 := by
  intro a h1 h2
  have hb := H.b0 vs a
  by_cases h : a ∈ vs
  · have h3 := bump_odd h (H.ev a h1 h2) (H.bd a)
    refine bump_even h ?_ ?_
    · rw [H.far2 (by omega)]; exact h3
    · rw [H.far2 (by omega)]; exact hb
  · rw [bump_out _ h, H.far2 (by omega), bump_out _ h]; exact H.ev a h1 h2
theorem HopOk.word {a : Int} (ha : a < 64) : bump vs (hopV2 b u k u' k' t r vs v0) a = v0 a := by
  have h : a ∉ vs := fun c => by have := H.low a c; omega
  rw [bump_out _ h, H.far2 (by omega), bump_out _ h]
/-- On the way: both versions are odd, or the slots say what they said ahead of it, or what they say behind it. -/
theorem HI.safe {s : CS} {x : HP} {n : Nat} (h : HI W j b u k u' k' t r vs v0 s x n) : (s.val (ver b u) % 2 = 1 ∧ s.val (ver b u') % 2 = 1) ∨
    (s.val 2 = v0 2 ∧ ∀ a c, SIn b a c → slA s.val b a c = slA v0 b a c) ∨ (s.val 2 = v0 2 ∧ ∀ a c, SIn b a c → slA s.val b a c = slA (bump vs (hopV2 b u k u' k' t r vs v0)) b a c) := by
  have hl : ∀ x ∈ vs, x < 128 := fun x hx => (H.low x hx).2
  have hv1 := H.pi.ver; have hv2 := H.qi.ver
  have hm := H.mem
  have hpA := H.pi.tags; have hpI := H.pi.item; have hqA := H.qi.tags; have hqI := H.qi.item
  have hz := H.pi.size; have hu0 := H.pi.u0; have hk0 := H.pi.k0; have hv0 := H.qi.u0; have hw0 := H.qi.k0
  have o1 : bump vs v0 (ver b u) % 2 = 1 := bump_odd hm.1 (H.ev _ hv1.1 hv1.2) (H.bd _)
  have o2 : bump vs v0 (ver b u') % 2 = 1 := bump_odd hm.2 (H.ev _ hv2.1 hv2.2) (H.bd _)
  have far : ∀ {v : Int → Int} {a g : Int} (w : Int), a < 128 → 4096 ≤ g → upd v g w a = v a := fun w h1 h2 => upd_other _ (by omega) w
  cases h with
  | a tg hs =>
    rw [hs]; exact .inr (.inl ⟨rfl, fun _ _ _ => rfl⟩)
  | b hs =>
    rw [hs]; exact .inr (.inl ⟨rfl, fun _ _ _ => rfl⟩)
  | m1 ys x xs he hs =>
    rw [hs]
    refine .inr (.inl ⟨bump_out _ fun c => ?_, fun a c h => sl_bump _ (fun x hx => hl x (by rw [he]; simp [hx])) h⟩)
    have := H.low 2 (by rw [he]; simp [c])
    omega
  | o0 hs =>
    rw [hs]; exact .inl ⟨o1, o2⟩
  | o1 hs =>
    rw [hs]; exact .inl ⟨o1, o2⟩
  | o2 hs =>
    rw [hs]
    unfold hvo
    rw [far _ hv1.2 (by omega), far _ hv2.2 (by omega)]
    exact .inl ⟨o1, o2⟩
  | p0 hs =>
    rw [hs]
    unfold hopV1
    rw [hv1_far H.pi (by omega), hv1_far H.pi (by omega)]
    exact .inl ⟨o1, o2⟩
  | p1 hs =>
    rw [hs]
    unfold hvi hopV1
    rw [far _ hv1.2 (by omega), far _ hv2.2 (by omega), hv1_far H.pi (by omega), hv1_far H.pi (by omega)]
    exact .inl ⟨o1, o2⟩
  | p2 hs =>
    rw [hs]
    unfold hvi hopV1
    rw [far _ hv1.2 (by omega), far _ hv2.2 (by omega), hv1_far H.pi (by omega), hv1_far H.pi (by omega)]
    exact .inl ⟨o1, o2⟩
  | m2 ys x xs he hs =>
    rw [hs]
    refine .inr (.inr ⟨?_, fun a c h => ?_⟩)
    · rw [bump_out _ fun c => ?_, H.far2 (by omega), bump_out _ fun c => ?_]
      · have := H.low 2 c; omega
      · have := H.low 2 (by rw [he]; simp [c]); omega
    · rw [sl_bump _ hl h, sl_bump _ (fun x hx => hl x (by rw [he]; simp [hx])) h]
end
end Go.Proofs.YtdbgfidnccpmdaaGreat

/-
  Hops along a way: the table stays well; the plain law.
-/
namespace Go.Proofs.YtdbgfidnccpmdaaGreat
open Go.RowKit Go.Maps TagPure
set_option linter.unusedVariables false

/-- May a slot of a bucket say this? -/
def SlOk (b : Int) (its : List Itm) (u : Int) (x : Int × Int) : Prop :=
  x = (0, 0) ∨ ∃ (n : Nat) (y : Itm), its[n]? = some y ∧ x = (tag01 (hashOf y.key), (n : Int) + 1) ∧ (u = bk (hashOf y.key) b ∨ u = oth (bk (hashOf y.key) b) (tag01 (hashOf y.key)) b)
/-- A table whose items are where they may be. -/
structure Tbl (b : Int) (its : List Itm) (v : Int → Int) : Prop where
  b1 : 1 ≤ b
  b3 : b ≤ 3
  word : v 2 = tword b 0
  slot : ∀ u k, SIn b u k → SlOk b its u (slA v b u k)
def slN (b : Int) : List (Int × Int) := (List.range (4 * (tsize b).toNat)).map fun i => (((i / 4 : Nat) : Int), ((i % 4 : Nat) : Int))
/-- In how many slots an item is. -/
def cntI (v : Int → Int) (b r : Int) : Nat := (slN b).countP fun x => decide ((slA v b x.1 x.2).2 = r)
theorem slN_nodup (b : Int) : (slN b).Nodup := by
  unfold slN
  rw [List.nodup_iff_pairwise_ne, List.pairwise_map]
  refine (List.nodup_iff_pairwise_ne.1 (List.nodup_range)).imp fun {x y} h c => h ?_
  simp only [Prod.mk.injEq] at c
  omega
theorem slN_mem {b u k : Int} (h : SIn b u k) : (u, k) ∈ slN b := by
  have h1 := h.u0; have h2 := h.u1; have h3 := h.k0; have h4 := h.k1
  refine List.mem_map.2 ⟨4 * u.toNat + k.toNat, List.mem_range.2 (by omega), ?_⟩
  simp only [Prod.mk.injEq]
  omega
theorem slN_in {b : Int} (h1 : 1 ≤ b) (h3 : b ≤ 3) {x : Int × Int} (h : x ∈ slN b) : SIn b x.1 x.2 := by
  obtain ⟨i, hi, rfl⟩ := List.mem_map.1 h
  have := List.mem_range.1 hi
  exact ⟨h1, h3, by simp only; omega, by simp only; omega, by simp only; omega, by simp only; omega⟩
theorem countP_swap {α : Type} [DecidableEq α] (L : List α) (hn : L.Nodup) (p q : α) (hp : p ∈ L) (hq : q ∈ L) (hne : p ≠ q) (P P' : α → Bool) (h1 : P' q = P p) (h2 : P' p = P q) (h3 : ∀ x ∈ L, x ≠ p → x ≠ q → P' x = P x) : L.countP P' = L.countP P := by
  have hq' : q ∈ L.erase p := (List.mem_erase_of_ne hne.symm).2 hq
  have e := (List.perm_cons_erase hp).trans ((List.perm_cons_erase hq').cons p)
  have hr : ((L.erase p).erase q).countP P' = ((L.erase p).erase q).countP P := by
    refine List.countP_congr fun x hx => ?_
    have n1 := hn.erase p
    have c1 : x ≠ q := fun c => by subst c; exact (List.Nodup.not_mem_erase n1) hx
    have c2 : x ≠ p := fun c => by subst c; exact (List.Nodup.not_mem_erase hn) (List.mem_of_mem_erase hx)
    rw [h3 x (List.mem_of_mem_erase (List.mem_of_mem_erase hx)) c2 c1]
  rw [e.countP_eq P', e.countP_eq P]
  simp only [List.countP_cons, h1, h2, hr]
  omega
theorem xor8 : ∀ k m : Fin 8, bits .xor .i64 (bits .xor .i64 (k.val : Int) (m.val : Int)) (m.val : Int) = (k.val : Int) := by decide
/-- The other bucket's other bucket. -/
theorem oth_back {k t b : Int} (h1 : 1 ≤ b) (h3 : b ≤ 3) (hk : 0 ≤ k ∧ k < tsize b) (ht : 0 ≤ t ∧ t ≤ 255) : oth (oth k t b) t b = k := by
  have hp := tsize_pos (b := b) ⟨h1, by omega⟩
  have h8 : tsize b ≤ 8 := (SIn.size (b := b) (u := 0) (k := 0) ⟨h1, h3, by omega, by omega, by omega, by omega⟩).2
  unfold oth
  rw [mask_modW _ _ (by omega) (by omega) ⟨h1, by omega⟩]
  have m1 := Int.emod_nonneg (t * 1540483477) (b := tsize b) (by omega)
  have m2 := Int.emod_lt_of_pos (t * 1540483477) (show 0 < tsize b by omega)
  have := xor8 ⟨k.toNat, by omega⟩ ⟨(t * 1540483477 % tsize b).toNat, by omega⟩
  simp only [Int.toNat_of_nonneg hk.1, Int.toNat_of_nonneg m1] at this
  exact this
/-- A way, hops on it down to the spot L. -/
structure HWay (b : Int) (its : List Itm) (c : Int → Nat) (Wy : List (Int × Int)) (L : Nat) (v : Int → Int) : Prop where
  tbl : Tbl b its v
  cnt : ∀ r, r ≠ 0 → cntI v b r = c r
  bd : ∀ a, 0 ≤ v a ∧ v a < 18446744073709551616
  ev : ∀ a, 64 ≤ a → a < 128 → v a % 2 = 0
  inn : ∀ x ∈ Wy, SIn b x.1 x.2
  nd : (Wy.map (·.1)).Nodup
  lt : L < Wy.length
  free : ∀ x, Wy[L]? = some x → slA v b x.1 x.2 = (0, 0)
  lead : ∀ i x y, i < L → Wy[i]? = some x → Wy[i + 1]? = some y → 1 ≤ (slA v b x.1 x.2).1 ∧ oth x.1 (slA v b x.1 x.2).1 b = y.1
abbrev Word (v : Int → Int) : Prop := ∀ a, 0 ≤ v a ∧ v a < 18446744073709551616
theorem bump_bd {xs : List Int} {v : Int → Int} (h : Word v) : Word (bump xs v) := fun a => by
  have := h a
  unfold bump
  split
  · rw [wu_eq]; omega
  · exact this
theorem upd_bd {v : Int → Int} (h : Word v) (g : Int) {y : Int} (hy : 0 ≤ y ∧ y < 18446744073709551616) : Word (upd v g y) := fun a => by
  unfold upd
  split
  · exact hy
  · exact h a
theorem withOf_bd (x s t : Int) (h : 0 ≤ x ∧ x < 18446744073709551616) : 0 ≤ withOf x s t ∧ withOf x s t < 18446744073709551616 := wf_bd (withOf_wf x s t h.1 h.2)
def hopVs (b : Int) (Wy : List (Int × Int)) (i : Nat) : List Int := vof [(b, (Wy.getD i (0, 0)).1), (b, (Wy.getD (i + 1) (0, 0)).1)]
/-- The steps of the first so many hops. -/
def hopSum (b : Int) (Wy : List (Int × Int)) : Nat → Nat
  | 0 => 0
  | L + 1 => hopSum b Wy L + (8 + 2 * (hopVs b Wy L).length)
def wayH (b : Int) (Wy : List (Int × Int)) : List (Int × Int × Int) := Wy.map fun x => (b, x.1, x.2)
theorem nodup_ne {l : List Int} (h : l.Nodup) {i j : Nat} {x y : Int} (hx : l[i]? = some x) (hy : l[j]? = some y) (hij : i ≠ j) : x ≠ y := by
  obtain ⟨h1, rfl⟩ := List.getElem?_eq_some_iff.1 hx
  obtain ⟨h2, rfl⟩ := List.getElem?_eq_some_iff.1 hy
  exact fun c => hij ((List.getElem_inj h).1 c)
section
variable {b : Int} {its : List Itm} {c : Int → Nat} {Wy : List (Int × Int)} {v : Int → Int}
theorem HWay.hop {j : Nat} (h : HWay b its c Wy (j + 1) v) (hits : its.length ≤ 999) {x y : Int × Int} (hx : Wy[j]? = some x) (hy : Wy[j + 1]? = some y) :
    HopOk (wayH b Wy) j b x.1 x.2 y.1 y.2 (slA v b x.1 x.2).1 (slA v b x.1 x.2).2 (hopVs b Wy j) v := by
  have hxi := h.inn x (List.mem_of_getElem? hx)
  have hyi := h.inn y (List.mem_of_getElem? hy)
  obtain ⟨l1, l2⟩ := h.lead j x y (Nat.lt_succ_self j) hx hy
  have hr : 1 ≤ (slA v b x.1 x.2).2 ∧ (slA v b x.1 x.2).2 ≤ 1000 := by
    rcases h.tbl.slot _ _ hxi with h0 | ⟨n, z, hn, h0, -⟩
    · rw [h0] at l1; exact absurd l1 (by decide)
    · rw [h0]
      have := (List.getElem?_eq_some_iff.1 hn).1
      simp only; omega
  refine ⟨by simp [wayH, hx], by simp [wayH, hy], hxi, hyi, ?_, rfl, l1, rfl, hr.1, hr.2, ?_, h.bd, h.ev⟩
  · exact nodup_ne h.nd (i := j) (j := j + 1) (by simp [hx]) (by simp [hy]) (by omega)
  · unfold hopVs
    rw [List.getD_eq_getElem?_getD, List.getD_eq_getElem?_getD, hx, hy]; rfl
theorem HWay.next {j : Nat} (h : HWay b its c Wy (j + 1) v) (hits : its.length ≤ 999) {x y : Int × Int} (hx : Wy[j]? = some x) (hy : Wy[j + 1]? = some y) {v' : Int → Int}
    (hv : v' = bump (hopVs b Wy j) (hopV2 b x.1 x.2 y.1 y.2 (slA v b x.1 x.2).1 (slA v b x.1 x.2).2 (hopVs b Wy j) v)) : HWay b its c Wy j v' := by
  have H := h.hop hits hx hy
  have hxi := H.pi; have hyi := H.qi
  obtain ⟨l1, l2⟩ := h.lead j x y (Nat.lt_succ_self j) hx hy
  have hmv : ∀ a k, SIn b a k → slA v' b a k = if a = y.1 ∧ k = y.2 then slA v b x.1 x.2 else if a = x.1 ∧ k = x.2 then (0, 0) else slA v b a k := fun a k hs => by rw [hv]; exact H.moved hs
  have hfr : slA v b y.1 y.2 = (0, 0) := h.free y hy
  have hne : ¬ (x.1 = y.1 ∧ x.2 = y.2) := fun e => H.ne e.1
  refine ⟨⟨h.tbl.b1, h.tbl.b3, ?_, fun u k hs => ?_⟩, fun r hr => ?_, ?_, ?_, h.inn, h.nd, by have := h.lt; omega, ?_, ?_⟩
  · rw [hv, H.word (by omega)]; exact h.tbl.word
  · rw [hmv u k hs]
    split
    · rename_i e
      rcases h.tbl.slot _ _ hxi with h0 | ⟨n, z, hn, h0, hu⟩
      · rw [h0] at l1; exact absurd l1 (by decide)
      · refine .inr ⟨n, z, hn, h0, ?_⟩
        rw [h0] at l2
        have hb := bk_bd (hashOf z.key) b ⟨h.tbl.b1, by have := h.tbl.b3; omega⟩
        have ht := tag01_bd (hashOf z.key) (hfold_bd _ _).1 (hfold_bd _ _).2
        rw [e.1, ← l2]
        rcases hu with hu | hu
        · right; rw [hu]
        · left; rw [hu]; exact oth_back h.tbl.b1 h.tbl.b3 hb (by omega)
    · split
      · exact .inl rfl
      · exact h.tbl.slot u k hs
  · rw [← h.cnt r hr]
    refine countP_swap (slN b) (slN_nodup b) (x.1, x.2) (y.1, y.2) (slN_mem hxi) (slN_mem hyi) (fun e => hne (by simpa using e)) _ _ ?_ ?_ ?_
    · rw [hmv _ _ hyi, if_pos ⟨rfl, rfl⟩]
    · rw [hmv _ _ hxi, if_neg hne, if_pos ⟨rfl, rfl⟩, hfr]
    · intro z hz h1 h2
      have hs := slN_in h.tbl.b1 h.tbl.b3 hz
      rw [hmv _ _ hs, if_neg (fun e => h2 (Prod.ext e.1 e.2)), if_neg (fun e => h1 (Prod.ext e.1 e.2))]
  · rw [hv]
    have hr : 0 ≤ (slA v b x.1 x.2).2 ∧ (slA v b x.1 x.2).2 < 18446744073709551616 := by have := H.r1; have := H.r2; omega
    have b1 := bump_bd (xs := hopVs b Wy j) h.bd
    have b2 := upd_bd b1 (tagsA b x.1) (withOf_bd (bump (hopVs b Wy j) v (tagsA b x.1)) x.2 0 (b1 _))
    have b3 := upd_bd b2 (itemA b x.1 x.2) (y := 0) (by omega)
    have b4 := upd_bd b3 (itemA b y.1 y.2) hr
    exact bump_bd (upd_bd b4 (tagsA b y.1) (withOf_bd _ y.2 (slA v b x.1 x.2).1 (b4 _)))
  · rw [hv]; exact H.evens
  · intro z hz
    rw [hx] at hz
    cases hz
    rw [hmv _ _ hxi, if_neg hne, if_pos ⟨rfl, rfl⟩]
  · intro i z z' hi hz hz'
    have hzi := h.inn z (List.mem_of_getElem? hz)
    have n1 : z.1 ≠ x.1 := nodup_ne h.nd (i := i) (j := j) (by simp [hz]) (by simp [hx]) (by omega)
    have n2 : z.1 ≠ y.1 := nodup_ne h.nd (i := i) (j := j + 1) (by simp [hz]) (by simp [hy]) (by omega)
    rw [hmv _ _ hzi, if_neg (fun e => n2 e.1), if_neg (fun e => n1 e.1)]
    exact h.lead i z z' (by omega) hz hz'
theorem hopVs_len {i : Nat} {x y : Int × Int} (hx : Wy[i]? = some x) (hy : Wy[i + 1]? = some y) (h1 : SIn b x.1 x.2) (h2 : SIn b y.1 y.2) : 1 ≤ (hopVs b Wy i).length ∧ (hopVs b Wy i).length ≤ 2 := by
  have e : hopVs b Wy i = vof [(b, x.1), (b, y.1)] := by
    unfold hopVs
    rw [List.getD_eq_getElem?_getD, List.getD_eq_getElem?_getD, hx, hy]; rfl
  have v1 := h1.ver; have v2 := h2.ver
  rw [e, vof_two (by show ver b x.1 ≠ 0; omega) (by show ver b y.1 ≠ 0; omega)]
  split <;> simp
theorem hopSum_bd (hin : ∀ x ∈ Wy, SIn b x.1 x.2) : ∀ L, L < Wy.length → 10 * L ≤ hopSum b Wy L ∧ hopSum b Wy L ≤ 12 * L
  | 0, _ => by simp [hopSum]
  | L + 1, h => by
    have ih := hopSum_bd hin L (by omega)
    have := hopVs_len (b := b) (i := L) (List.getElem?_eq_getElem (show L < Wy.length by omega)) (List.getElem?_eq_getElem h) (hin _ (List.getElem_mem _)) (hin _ (List.getElem_mem _))
    simp only [hopSum]
    omega
/-- Hops on a way, n steps ahead of their end. -/
def WI (b : Int) (its : List Itm) (c : Int → Nat) (Wy : List (Int × Int)) (s : CS) (x : HP) (n : Nat) : Prop :=
  (n = 0 ∧ x.left = 0 ∧ x.way = wayH b Wy ∧ HWay b its c Wy 0 s.val) ∨
  ∃ (j m : Nat) (p q : Int × Int) (v : Int → Int), Wy[j]? = some p ∧ Wy[j + 1]? = some q ∧ HWay b its c Wy (j + 1) v ∧ HI (wayH b Wy) j b p.1 p.2 q.1 q.2 (slA v b p.1 p.2).1 (slA v b p.1 p.2).2 (hopVs b Wy j) v s x m ∧ 1 ≤ m ∧ n = m + hopSum b Wy j
theorem WI.start {L : Nat} (h : HWay b its c Wy L v) {s : CS} (hs : s.val = v) (tg : Int) : WI b its c Wy s ⟨wayH b Wy, L, tg, false, []⟩ (hopSum b Wy L) := by
  cases L with
  | zero => exact .inl ⟨rfl, rfl, rfl, by rw [hs]; exact h⟩
  | succ j =>
    have hl := h.lt
    have hx : Wy[j]? = some (Wy[j]'(by omega)) := List.getElem?_eq_getElem _
    have hy : Wy[j + 1]? = some (Wy[j + 1]'(by omega)) := List.getElem?_eq_getElem _
    exact .inr ⟨j, _, _, _, v, hx, hy, h, HI.a s tg hs, by omega, by simp only [hopSum]; omega⟩
theorem WI.step {s : CS} {x : HP} {n : Nat} (h : WI b its c Wy s x n) (hits : its.length ≤ 999) (hn : 1 ≤ n) : hpgo x = true ∧ x.way = wayH b Wy ∧ 1 ≤ x.left ∧ x.left < Wy.length ∧ WI b its c Wy (x.next s).1 (x.next s).2 (n - 1) := by
  rcases h with ⟨h, _⟩ | ⟨j, m, p, q, v, hp, hq, hw, hi, hm, rfl⟩
  · omega
  · obtain ⟨a1, a2, a3, a4, a5, a6⟩ := HI.step (hw.hop hits hp hq) hi
    have hlt := hw.lt
    refine ⟨a3, a2, by omega, by omega, ?_⟩
    by_cases h1 : m = 1
    · obtain ⟨e1, e2⟩ := a5 h1
      subst h1
      rw [e2, show 1 + hopSum b Wy j - 1 = hopSum b Wy j by omega]
      exact WI.start (hw.next hits hp hq e1) rfl _
    · exact .inr ⟨j, m - 1, p, q, v, hp, hq, hw, a6 (by omega), by omega, by omega⟩
theorem WI.over {s : CS} {x : HP} {n : Nat} (h : WI b its c Wy s x n) (hits : its.length ≤ 999) : x.left = 0 ↔ n = 0 := by
  rcases h with ⟨h, h2, _⟩ | ⟨j, m, p, q, v, hp, hq, hw, hi, hm, rfl⟩
  · exact ⟨fun _ => h, fun _ => h2⟩
  · have := (HI.step (hw.hop hits hp hq) hi).1
    omega
/-- The whole of them. -/
theorem WI.run : ∀ (n : Nat) {s : CS} {x : HP}, WI b its c Wy s x n → its.length ≤ 999 → ∀ k, k ≤ n → hpchk (s, x) k = true ∧ WI b its c Wy (hpits (s, x) k).1 (hpits (s, x) k).2 (n - k) := by
  intro n s x h hits k
  induction k with
  | zero => intro _; exact ⟨rfl, h⟩
  | succ k ih =>
    intro hk
    obtain ⟨i1, i2⟩ := ih (by omega)
    obtain ⟨a1, -, -, -, a3⟩ := i2.step hits (by omega)
    refine ⟨by simp only [hpchk, i1, a1]; rfl, ?_⟩
    rw [show n - (k + 1) = n - k - 1 by omega]
    exact a3
/-- The table under way in a hop: both versions are odd, or it is well. -/
theorem HI.tbl {j m : Nat} {p q : Int × Int} {v : Int → Int} {s : CS} {x : HP} (hw : HWay b its c Wy (j + 1) v) (hits : its.length ≤ 999) (hp : Wy[j]? = some p) (hq : Wy[j + 1]? = some q)
    (hi : HI (wayH b Wy) j b p.1 p.2 q.1 q.2 (slA v b p.1 p.2).1 (slA v b p.1 p.2).2 (hopVs b Wy j) v s x m) : (s.val (ver b p.1) % 2 = 1 ∧ s.val (ver b q.1) % 2 = 1) ∨ (Tbl b its s.val ∧ ∀ r, r ≠ 0 → cntI s.val b r = c r) := by
  have H := hw.hop hits hp hq
  have same : ∀ {v' : Int → Int}, Tbl b its v' → (∀ r, r ≠ 0 → cntI v' b r = c r) → (s.val 2 = v' 2) → (∀ a k, SIn b a k → slA s.val b a k = slA v' b a k) → Tbl b its s.val ∧ ∀ r, r ≠ 0 → cntI s.val b r = c r := by
    intro v' h1 h2 h3 h4
    refine ⟨⟨h1.b1, h1.b3, by rw [h3]; exact h1.word, fun u k hs => by rw [h4 u k hs]; exact h1.slot u k hs⟩, fun r hr => ?_⟩
    rw [← h2 r hr]
    refine List.countP_congr fun z hz => ?_
    rw [h4 z.1 z.2 (slN_in h1.b1 h1.b3 hz)]
  rcases HI.safe H hi with h | ⟨h1, h2⟩ | ⟨h1, h2⟩
  · exact .inl h
  · exact .inr (same hw.tbl hw.cnt h1 h2)
  · have hn := hw.next hits hp hq rfl
    refine .inr (same hn.tbl hn.cnt ?_ h2)
    rw [h1, hn.tbl.word]; exact hw.tbl.word
/-- Behind a step: both versions of the hop's places are odd, or the table is well. -/
theorem WI.safe {s : CS} {x : HP} {n : Nat} (h : WI b its c Wy s x n) (hits : its.length ≤ 999) (hn : 1 ≤ n) : ∃ (j : Nat) (p q : Int × Int), x.left = j + 1 ∧ Wy[j]? = some p ∧ Wy[j + 1]? = some q ∧
    (((x.next s).1.val (ver b p.1) % 2 = 1 ∧ (x.next s).1.val (ver b q.1) % 2 = 1) ∨ (Tbl b its (x.next s).1.val ∧ ∀ r, r ≠ 0 → cntI (x.next s).1.val b r = c r)) := by
  rcases h with ⟨h, _⟩ | ⟨j, m, p, q, v, hp, hq, hw, hi, hm, rfl⟩
  · omega
  · obtain ⟨a1, a2, a3, a4, a5, a6⟩ := HI.step (hw.hop hits hp hq) hi
    refine ⟨j, p, q, a1, hp, hq, ?_⟩
    by_cases h1 : m = 1
    · obtain ⟨e1, e2⟩ := a5 h1
      have hn := hw.next hits hp hq e1
      exact .inr ⟨hn.tbl, hn.cnt⟩
    · exact HI.tbl hw hits hp hq (a6 (by omega))
end
end Go.Proofs.YtdbgfidnccpmdaaGreat

/-
  How often each item stands in a slot: the plain part.
-/
namespace Go.Proofs.YtdbgfidnccpmdaaGreat
open Go.RowKit Go.Maps TagPure
set_option linter.unusedVariables false

def stC (v : Int → Int) (b : Int) (i r : Nat) : Nat := if r = 0 then 0 else ((slN b).take i).countP fun x => decide ((slA v b x.1 x.2).2 = (r : Int))
def stRow (v : Int → Int) (b : Int) (i n : Nat) : List Value := (List.range n).map fun r => .int .i64 (stC v b i r)
theorem stRow_len (v : Int → Int) (b : Int) (i n : Nat) : (stRow v b i n).length = n := by simp [stRow]
theorem stRow_zero (v : Int → Int) (b : Int) (n : Nat) : stRow v b 0 n = List.replicate n (.int .i64 0) := by
  apply List.ext_getElem
  · simp [stRow]
  · intro i h1 h2
    simp [stRow, stC]
theorem stC_le (v : Int → Int) (b : Int) (i r : Nat) : stC v b i r ≤ i := by
  unfold stC
  split
  · omega
  · exact Nat.le_trans List.countP_le_length (by simp; omega)
theorem slN_at (b : Int) (i : Nat) (h : i < 4 * (tsize b).toNat) : (slN b)[i]? = some (((i / 4 : Nat) : Int), ((i % 4 : Nat) : Int)) := by
  unfold slN
  rw [List.getElem?_map, List.getElem?_range h]; rfl
theorem slN_len (b : Int) : (slN b).length = 4 * (tsize b).toNat := by simp [slN]
section
variable {v : Int → Int} {b : Int} {i n : Nat} {x : Int × Int}
theorem stC_free (h : (slN b)[i]? = some x) (h0 : (slA v b x.1 x.2).2 = 0) (r : Nat) : stC v b (i + 1) r = stC v b i r := by
  unfold stC
  by_cases hr : r = 0
  · rw [if_pos hr, if_pos hr]
  · rw [if_neg hr, if_neg hr, List.take_add_one, h, List.countP_append]
    simp [h0]; omega
theorem stC_item (h : (slN b)[i]? = some x) {r : Nat} (h0 : (slA v b x.1 x.2).2 = (r : Int)) (h1 : 1 ≤ r) (q : Nat) : stC v b (i + 1) q = if q = r then stC v b i r + 1 else stC v b i q := by
  unfold stC
  by_cases hq : q = 0
  · subst hq
    rw [if_pos rfl, if_neg (by omega), if_pos rfl]
  · rw [if_neg hq, List.take_add_one, h, List.countP_append]
    by_cases hr : q = r
    · subst hr
      rw [if_pos rfl, if_neg hq]
      simp [h0]
    · rw [if_neg hr, if_neg hq]
      simp [h0]; omega
theorem stRow_free (h : (slN b)[i]? = some x) (h0 : (slA v b x.1 x.2).2 = 0) : stRow v b (i + 1) n = stRow v b i n := by
  unfold stRow
  refine List.map_congr_left fun r _ => ?_
  rw [stC_free h h0 r]
theorem stRow_item (h : (slN b)[i]? = some x) {r : Nat} (h0 : (slA v b x.1 x.2).2 = (r : Int)) (h1 : 1 ≤ r) (h2 : r < n) : stRow v b (i + 1) n = (stRow v b i n).set r (.int .i64 (stC v b i r + 1 : Nat)) := by
  apply List.ext_getElem
  · simp [stRow]
  · intro q g1 g2
    rw [List.getElem_set]
    simp only [stRow, List.getElem_map, List.getElem_range, stC_item h h0 h1 q]
    by_cases hq : r = q
    · rw [if_pos hq, if_pos hq.symm]
    · rw [if_neg hq, if_neg (fun c => hq c.symm)]
theorem stRow_same {v' : Int → Int} {c : Int → Nat} (h : ∀ r, r ≠ 0 → cntI v b r = c r) (h' : ∀ r, r ≠ 0 → cntI v' b r = c r) : stRow v b (4 * (tsize b).toNat) n = stRow v' b (4 * (tsize b).toNat) n := by
  unfold stRow
  refine List.map_congr_left fun r _ => ?_
  congr 2
  unfold stC
  by_cases hr : r = 0
  · rw [if_pos hr, if_pos hr]
  · rw [if_neg hr, if_neg hr, List.take_of_length_le (by rw [slN_len]; exact Nat.le_refl _)]
    exact (h r (by omega)).trans (h' r (by omega)).symm
end
/-- A key's places in one table. -/
theorem plist_one {h b : Int} (hb : 1 ≤ b ∧ b ≤ 3) : plist h (tword b 0) = if oth (bk h b) (tag01 h) b = bk h b then [(b, bk h b)] else [(b, bk h b), (b, oth (bk h b) (tag01 h) b)] := by
  obtain ⟨e1, e2, -⟩ := as_one (b := b) ⟨hb.1, by omega⟩
  unfold plist
  rw [e1, e2, pairOf_in h b ⟨hb.1, by omega⟩]
  have e3 : pairOf h 0 = [] := if_pos rfl
  rw [e3, List.append_nil, dedup_pair]
  by_cases hc : oth (bk h b) (tag01 h) b = bk h b
  · rw [if_pos hc, if_pos (by rw [hc])]
  · rw [if_neg hc, if_neg (fun c => hc (Prod.mk.inj c).2)]
theorem plist_mem {h b u : Int} (hb : 1 ≤ b ∧ b ≤ 3) : (b, u) ∈ plist h (tword b 0) ↔ u = bk h b ∨ u = oth (bk h b) (tag01 h) b := by
  rw [plist_one hb]
  split
  · rename_i e
    rw [e]; simp
  · simp
end Go.Proofs.YtdbgfidnccpmdaaGreat

/-
  nestboxlaw13.Lay: an item is laid at a slot of one of its key's places.
-/
namespace Go.Proofs.YtdbgfidnccpmdaaGreat
open Go.RowKit Go.Maps TagPure
set_option linter.unusedVariables false

theorem fx_new {K : TypeId → Bool} {mp : Bool} {b : Nat} {w w1 w2 : World} (h : Fx K mp b w1 w2) (hb : Below w.heap.size w w1) (hn : w.heap.size ≤ b) : Fr K mp w w2 :=
  ⟨Nat.le_trans hb.size h.size, fun k cs T fr h1 h2 => h.cells k cs T fr ((hb.block _ (Array.getElem?_eq_some_iff.1 h1).1).trans h1) h2 (fun c => by have := (Array.getElem?_eq_some_iff.1 h1).1; omega),
   fun hm k es cl h1 => h.map hm k es cl ((hb.block _ (Array.getElem?_eq_some_iff.1 h1).1).trans h1) (fun c => by have := (Array.getElem?_eq_some_iff.1 h1).1; omega)⟩
/-- A key's bucket, of its places in a table. -/
def layU (h b pl : Int) : Int := ((plist h (tword b 0)).getD (pl % (plist h (tword b 0)).length).toNat (0, 0)).2
theorem layU_in {h b pl : Int} (hb : 1 ≤ b ∧ b ≤ 3) : layU h b pl = bk h b ∨ layU h b pl = oth (bk h b) (tag01 h) b := by
  unfold layU
  rw [plist_one hb]
  split
  · left
    simp
  · have h1 : pl % (2 : Int) = 0 ∨ pl % (2 : Int) = 1 := by omega
    rcases h1 with h1 | h1
    · left; simp [h1]
    · right; simp [h1]
theorem lay_sin {h b pl sl : Int} (h0 : 0 ≤ h) (h1 : h < 18446744073709551616) (hb : 1 ≤ b ∧ b ≤ 3) : SIn b (layU h b pl) (sl % 4) := by
  have ht := tag01_bd h h0 h1
  have hk := bk_bd h b ⟨hb.1, by omega⟩
  have ho := oth_bd0 (bk h b) (tag01 h) b ⟨hb.1, by omega⟩ hk (by omega)
  rcases layU_in (h := h) (pl := pl) hb with e | e
  · rw [e]; exact ⟨hb.1, hb.2, hk.1, hk.2, by omega, by omega⟩
  · rw [e]; exact ⟨hb.1, hb.2, ho.1, ho.2, by omega, by omega⟩
def layS (s : CS) (h b pl sl r : Int) : CS := if tagOf (s.val (tagsA b (layU h b pl))) (sl % 4) = 0 then pst s (tagsA b (layU h b pl)) (itemA b (layU h b pl) (sl % 4)) (sl % 4) (tag01 h) r 3 else s
abbrev TLay (q : Nat) (b u k : Int) (W : World) : Prop := W.cell? ⟨q, 0, none⟩ = some (.int .i64 b) ∧ W.cell? ⟨q, 1, none⟩ = some (.int .i64 u) ∧ W.cell? ⟨q, 2, none⟩ = some (.int .i64 k)
set_option maxRecDepth 10000 in
set_option maxHeartbeats 4000000 in
theorem lay_any {w0 w : World} {B : WB} {V : WV} {s : CS} (h : WS w0 w B V s) (m : Nat) (hm : s.n ≤ m ∧ s.cnt ≤ m) (hml : m + 3 < lim) (hil : V.its.length ≤ 1000) {r : Nat} {x : Itm} (hx : V.its[r]? = some x) (hk : x.key.size ≤ maxLen) {b : Int} (hb : 1 ≤ b ∧ b ≤ 3) (hw : s.val 2 = tword b 0) (pl sl : Int) (hpl : 0 ≤ pl ∧ pl < 256) (hsl : 0 ≤ sl ∧ sl < 256) :
    Calls Tryz.prog 133 #[.pointer (some ⟨B.wb, 0, none⟩), .int .i64 ((r : Int) + 1), .int .u8 pl, .int .u8 sl] w fun e w' =>
      e = .returned (.bool (tagOf (s.val (tagsA b (layU (hashOf x.key) b pl))) (sl % 4) == 0)) ∧ WS w0 w' B V (layS s (hashOf x.key) b pl sl ((r : Int) + 1)) ∧ Fr wTy true w w' := by
  obtain ⟨ha0, ha1⟩ := hfold_bd x.key x.key.size
  have hH := Lib.hid (fun W => hash_big x.key hk W)
  have hP := Lib.hid (fun W => places_any (hashOf x.key) (s.val 2) ha0 ha1 (h.own.wf 2) W)
  have hT := Lib.hid (fun W => tag_fn (hashOf x.key) ha0 ha1 W)
  have htb := tag01_bd (hashOf x.key) ha0 ha1
  have hsin := lay_sin (h := hashOf x.key) (pl := pl) (sl := sl) ha0 ha1 hb
  have hrl := (List.getElem?_eq_some_iff.1 hx).1
  have hat : atOf V.its ((r : Int) + 1) = (x, true) := by
    unfold atOf
    rw [if_pos (by omega), show (((r : Int) + 1).toNat - 1) = r by omega]
    simp [hx, List.getD_eq_getElem?_getD]
  have hit := h.iat5 (by omega) ((r : Int) + 1)
  rw [hat] at hit
  have c1 := h.hd5.2.1
  obtain ⟨Lp, hLp⟩ : ∃ Lp, Lp = plist (hashOf x.key) (tword b 0) := ⟨_, rfl⟩
  have hU : layU (hashOf x.key) b pl = (Lp.getD (pl % Lp.length).toNat (0, 0)).2 := by rw [hLp]; rfl
  have hlen : Lp.length = 1 ∨ Lp.length = 2 := by
    rw [hLp, plist_one hb]; split
    · left; rfl
    · right; rfl
  have hpb : ∀ p ∈ Lp, p.1 = b := by
    intro p hp
    rw [hLp, plist_one hb] at hp
    split at hp
    · simp only [List.mem_singleton] at hp; rw [hp]
    · simp only [List.mem_cons, List.not_mem_nil, or_false] at hp
      rcases hp with rfl | rfl <;> rfl
  rw [hw] at hP
  rw [← hLp] at hP
  obtain ⟨s2, hs2⟩ : ∃ s2, s2 = layS s (hashOf x.key) b pl sl ((r : Int) + 1) := ⟨_, rfl⟩
  rw [← hs2]
  unfold layS at hs2
  generalize layU (hashOf x.key) b pl = u at *
  generalize tag01 (hashOf x.key) = tgx at *
  generalize hashOf x.key = hsh at *
  obtain ⟨k, hkk⟩ : ∃ k, k = sl % 4 := ⟨_, rfl⟩
  rw [← hkk] at hsin hs2 ⊢
  obtain ⟨tv, htv0⟩ : ∃ tv, tv = tagOf (s.val (tagsA b u)) k := ⟨_, rfl⟩
  rw [← htv0] at hs2 ⊢
  have HTV := Lib.hid htv0
  have hne : ¬ Lp = [] := fun c => by rw [c] at hlen; simp at hlen
  have ek : sl.tmod 4 = k := by rw [Int.tmod_eq_emod_of_nonneg hsl.1, hkk]
  obtain ⟨n, hn⟩ : ∃ n : Nat, (n : Int) = pl % Lp.length := ⟨(pl % Lp.length).toNat, by rcases hlen with h | h <;> rw [h] <;> omega⟩
  have hnl : n < Lp.length := by rcases hlen with h | h <;> rw [h] at hn ⊢ <;> omega
  have en : pl.tmod Lp.length = n := by rw [Int.tmod_eq_emod_of_nonneg hpl.1, hn]
  have hpn : Lp[n]? = some (b, u) := by
    rw [List.getElem?_eq_getElem hnl]
    have h1 := hpb _ (List.getElem_mem hnl)
    have h2 : Lp.getD (pl % Lp.length).toNat (0, 0) = Lp[n] := by
      rw [← hn, Int.toNat_natCast, List.getD_eq_getElem?_getD, List.getElem?_eq_getElem hnl]; rfl
    rw [h2] at hU
    congr 1
    exact Prod.ext h1 hU.symm
  have hkw : (Lit.int .i64 k).wf = true := by
    have h1 := hsin.k0; have h2 := hsin.k1
    simp [Lit.wf, IntKind.min, IntKind.max, IntKind.bits, IntKind.signed]; omega
  have e5 : wrap64 k = k := by
    have h1 := hsin.k0; have h2 := hsin.k1
    exact IntWalk.wrap64_in _ (by omega)
  have hnp := fun W => newput_in b u k tgx ((r : Int) + 1) hkw (by omega) (by omega) W
  rw [hsin.sof] at hnp
  have hz0 : tagsA b u ≠ 0 := by have := hsin.tags; have := hsin.size; have := hsin.u0; omega
  have c0 := h.c0
  have d0 : ((Lp.length : Int) == 0) = false := beq_eq_false_iff_ne.2 (by omega)
  have d1 : decide ((n : Int) < Lp.length) = true := decide_eq_true (by omega)
  have H := Lib.hid h; have HNP := Lib.hid hnp; have HZ0 := Lib.hid hz0; have HKW := Lib.hid hkw; have HPN := Lib.hid hpn; have HNL := Lib.hid hnl
  have HS2 := Lib.hid hs2; have HWD := Lib.hid hw; have HM := Lib.hid hm; have HML := Lib.hid hml; have HRL := Lib.hid hrl; have HIL := Lib.hid hil; have HSIN := Lib.hid hsin; have HTB := Lib.hid htb
  clear htv0 hs2 h hnp hz0 hkw hpn hnl hm hml hrl hil hsin htb hx hat hLp hU hlen hpb hkk hn hw ha0 ha1 hk hb
  go_enter Tryz.func133, Tryz.ntmps133
  go_upto_region 2 with (go_at_call 40; refine hit.mono ?_; intro e w2 hh; obtain ⟨hh1, b2⟩ := hh; subst hh1; have B2 := Lib.hid b2; clear b2 hit)
  have hbA := below_alloc w2 (.cells x.cells.toArray 52)
  have hzA := heap_alloc_new w2 (.cells x.cells.toArray 52)
  have HBA := Lib.hid (B2.out.trans (hbA.mono B2.out.size))
  have hxA := hcell hzA 0
  change Code.wp _ _ _ _ (w2.alloc (.cells x.cells.toArray 52))
  generalize w2.alloc (.cells x.cells.toArray 52) = wA at *
  generalize w2.heap.size = qA at *
  have cA : wA.cell? ⟨qA, 0, none⟩ = some (.string x.key) := hxA
  clear hbA hzA hxA c1 B2
  go_upto_region 3 with (go_at_call 32; refine (hH.out _).mono ?_; intro e w3 hh; obtain ⟨hh1, b3⟩ := hh; subst hh1; have B3 := Lib.hid (HBA.out.trans (b3.mono HBA.out.size)); clear b3 hH cA)
  have H3 := H.out.keep B3.out
  have hpk := H3.peek 2 (by decide)
  rw [HWD.out] at hpk
  have c03 := H3.c0
  clear H3 c0
  go_upto_region 4 with (first
    | (go_at_call 33; refine hpk.mono ?_; intro e w' hh; obtain ⟨hh1, hh2⟩ := hh; subst hh1; obtain rfl := hh2.symm; clear hpk)
    | (go_at_call 31; refine (hP.out _).mono ?_; intro e w4 hh; obtain ⟨pv, hh1, hp, b4⟩ := hh; subst hh1; have HP4 := Lib.hid hp; have B4 := Lib.hid (B3.out.trans (b4.mono B3.out.size)); clear hp b4 hP c03))
  obtain ⟨ao, hpv, hplc⟩ := HP4.out.plc
  subst hpv
  obtain ⟨g, o, p1, p2, hao, hlk, g0, g1⟩ := hplc.at n HNL.out
  rw [HPN.out] at hlk
  simp only [Option.some.injEq, Prod.mk.injEq] at hlk
  obtain ⟨rfl, rfl⟩ := hlk
  subst hao
  clear hplc
  go_upto_region 7 with (fail)
  have hbS := below_alloc w4 (.cells #[.int .i64 b, .int .i64 u, .int .i64 k] 43)
  have hzS := heap_alloc_new w4 (.cells #[.int .i64 b, .int .i64 u, .int .i64 k] 43)
  have BS := Lib.hid (B4.out.trans (hbS.mono B4.out.size))
  change Code.wp _ _ _ _ (w4.alloc (.cells #[.int .i64 b, .int .i64 u, .int .i64 k] 43))
  clear hbS g0 g1 HP4 B3 B4 d0 d1
  generalize w4.alloc (.cells #[.int .i64 b, .int .i64 u, .int .i64 k] 43) = wS at *
  generalize w4.heap.size = qS at *
  have ZS := Lib.hid hzS
  have s0 := hcell hzS 0; have s1 := hcell hzS 1; have s2c := hcell hzS 2
  simp only [List.getElem?_toArray, List.getElem?_cons_zero, List.getElem?_cons_succ] at s0 s1 s2c
  have hsl := slot_any (H.out.keep BS.out) b u k HKW.out
  rw [← HTV.out] at hsl
  clear hzS
  go_upto_region 8 with (go_at_call 62; refine hsl.mono ?_; intro e w5 hh; obtain ⟨hh1, b5⟩ := hh; subst hh1; have B5 := Lib.hid (BS.out.trans (b5.mono BS.out.size)); have Z5 := Lib.hid ((b5.block _ (Array.getElem?_eq_some_iff.1 ZS.out).1).trans ZS.out); clear b5 hsl s0 s1 s2c)
  have H5 := Lib.hid (H.out.keep B5.out)
  have ts : TLay qS b u k w5.drew := ⟨hcell (w := w5.drew) Z5.out 0, hcell (w := w5.drew) Z5.out 1, hcell (w := w5.drew) Z5.out 2⟩
  clear H BS ZS
  by_cases htv : tv = 0
  · have e0 : (tv == 0) = true := beq_iff_eq.2 htv
    have HE0 := Lib.hid e0
    have HS3 := Lib.hid (HS2.out.trans (if_pos htv))
    clear htv
    go_region_held2 (fun W => TLay qS b u k W) (assumption) (first
      | (go_at_call 56; refine (hT.out _).mono ?_; intro e w10 hh; obtain ⟨hh1, hh2⟩ := hh; subst hh1; obtain rfl := hh2.symm)
      | (go_at_call 103; refine (HNP.out _).mono ?_; intro e w10 hh; obtain ⟨pq, hh1, sq, lq, bq⟩ := hh; subst hh1; have bq' := (Below.refl w5.heap.size w5).drew.trans bq; have HB := Lib.hid (H5.out.keep bq'); have hzB := (bq'.block _ (Array.getElem?_eq_some_iff.1 Z5.out).1).trans Z5.out; have ZB := Lib.hid hzB; have tsB : TLay qS b u k w10 := ⟨hcell hzB 0, hcell hzB 1, hcell hzB 2⟩; have hrp := run_put (m := m) HM.out HML.out (Nat.le_trans H5.out.below.size lq) HZ0.out (tagsA_wf b u) (itemA_wf b u k) (by have := HRL.out; have := HIL.out; omega) HB.out sq; have SQ := Lib.hid sq; have LQ := Lib.hid lq; have BQ := Lib.hid (B5.out.trans (bq'.mono B5.out.size)); clear sq lq bq bq' hzB ts)
      | (go_at_call 36; refine hrp.mono ?_; intro e w11 hh; obtain ⟨hh1, h11, s11, f11⟩ := hh; subst hh1; have HC := Lib.hid h11; have zC := f11.cells _ _ _ _ ZB.out rfl (by intro c; have := ZB.out; rw [c] at this; have := this.symm.trans SQ.out; simp at this); have tsC : TLay qS b u k w11 := ⟨hcell zC 0, hcell zC 1, hcell zC 2⟩; have FC := Lib.hid (fx_new f11 BQ.out (Nat.le_trans B5.out.size LQ.out)); clear h11 s11 f11 hrp tsB zC))
    go_wp2_with fail
    go_ret
    exact ⟨by rw [HE0.out]; rfl, by rw [HS3.out]; exact HC.out, FC.out⟩
  · have e0 : (tv == 0) = false := beq_eq_false_iff_ne.2 htv
    have HE0 := Lib.hid e0
    have HS3 := Lib.hid (HS2.out.trans (if_neg htv))
    clear htv
    refine wp_region_ext (by kernel_rfl) (by kernel_rfl) ?_
    repeat (go_big_quiet_step (fail))
    refine wpQuiet_nil ?_
    rintro W ⟨⟨W2, hW⟩, rfl⟩
    clear ts
    have HW := Lib.hid hW
    clear hW
    go_wp2_with fail
    go_ret
    exact ⟨by rw [HE0.out]; rfl, by rw [HS3.out]; exact H5.out.keep HW.out, below_fr (B5.out.trans (HW.out.mono B5.out.size)) _ _⟩
end Go.Proofs.YtdbgfidnccpmdaaGreat

/-
  A map from texts to integers that a call made: what it says at each key.
-/
namespace Go.Proofs.YtdbgfidnccpmdaaGreat
open Go.RowKit Go.Maps
set_option linter.unusedVariables false

def kS (a : ByteArray) : Lit := .string a.data.toList
theorem kS_key (a : ByteArray) : WideAt.IsKeyLit (kS a) := trivial
theorem kS_inj {a c : ByteArray} (h : kS a = kS c) : a = c := by
  obtain ⟨⟨x⟩⟩ := a; obtain ⟨⟨y⟩⟩ := c
  simp only [kS, Lit.string.injEq] at h
  rw [h]
/-- A function that says v at a text. -/
def updS (f : ByteArray → Int) (a : ByteArray) (v : Int) : ByteArray → Int := fun x => if x = a then v else f x
/-- Block m is a map of at most n entries; at key a it says f a (0 where it has none). -/
def MapS (w : World) (m n : Nat) (f : ByteArray → Int) : Prop :=
  ∃ D : DataW Unit, w.ownsMap Tryz.prog 9 (plainElem Tryz.prog 3) m n D ∧ ∀ a, D.atKey (kS a) (.lit (.int .i64 0)) = .lit (.int .i64 (f a))
theorem zero_int (w : World) : (zeroValue 3).run Tryz.prog w = .ok (.int .i64 0) w := by kernel_rfl
section
variable {w w' : World} {m n : Nat} {f : ByteArray → Int}
theorem MapS.made (w : World) : MapS (w.alloc (.map #[] 0)) w.heap.size 0 fun _ => 0 := ⟨.map [], World.ownsMap_made w _ _ _, fun a => rfl⟩
theorem MapS.lt (h : MapS w m n f) : m < w.heap.size := by obtain ⟨D, h, _⟩ := h; exact h.lt
theorem MapS.keep (h : MapS w m n f) (hk : w'.heap[m]? = w.heap[m]?) : MapS w' m n f := by
  obtain ⟨D, ⟨es, clock, hb, r⟩, hf⟩ := h
  exact ⟨D, ⟨es, clock, hk.trans hb, r⟩, hf⟩
theorem MapS.below (h : MapS w m n f) (hb : Below w.heap.size w w') : MapS w' m n f := h.keep (hb.block _ h.lt)
theorem MapS.blk (h : MapS w m n f) : ∃ es cl, w.heap[m]? = some (.map es cl) := by
  obtain ⟨D, ⟨es, cl, hb, _⟩, _⟩ := h
  exact ⟨es, cl, hb⟩
theorem MapS.look (h : MapS w m n f) {a : ByteArray} (ha : a.size ≤ maxLen) :
    (Instr.lookup 260 (.map (some m)) (.string a) false).run Tryz.prog w = .ok (.int .i64 (f a)) w := by
  obtain ⟨D, h, hf⟩ := h
  obtain ⟨c, hr, hat, hw⟩ := h.lookup_int (string_keyed Tryz.underlying9) Tryz.underlying260 Tryz.underlying3 (zero_int w) (WideMaps.keyOf_string_mk Tryz.underlying9 ha)
  have := hat.symm.trans (hf a)
  simp only [DataW.lit.injEq, Lit.int.injEq, true_and] at this
  subst this
  exact hr
theorem MapS.put (h : MapS w m n f) {a : ByteArray} {v : Int} (ha : a.size ≤ maxLen) (hv : (Lit.int .i64 v).wf = true) (hn : n < maxLen) :
    ∃ w', (Instr.mapUpdate 260 (.map (some m)) (.string a) (.int .i64 v)).run Tryz.prog w = .ok () w' ∧ MapS w' m (n + 1) (updS f a v) ∧ w.grownBy w' (some m) := by
  obtain ⟨D, h, hf⟩ := h
  obtain ⟨w', hr, ho, hg⟩ := h.update (string_keyed Tryz.underlying9) Tryz.underlying260 hn (WideMaps.keyOf_string_mk Tryz.underlying9 ha) (plainElem_int Tryz.underlying3 hv)
  refine ⟨w', hr, ⟨_, ho, fun x => ?_⟩, hg⟩
  by_cases hx : x = a
  · subst hx
    unfold updS
    rw [if_pos rfl]; exact atKey_put_same h.isMap (kS_key x) _ _
  · have hne : kS x ≠ kS a := fun c => hx (kS_inj c)
    have e := atKey_put_other (D := D) (d := .lit (.int .i64 v)) (z := .lit (.int .i64 0)) hne
    unfold updS
    rw [if_neg hx]
    exact e.trans (hf x)
end
/-- 'm[a] = v' at the operation. -/
theorem wpList_puts {w : World} {b n : Nat} {f : ByteArray → Int} {ops : Array Oper} {rest : List Oper} {o : Oper} {a : Act} {Q : Exit → Act → World → Prop} (hg : o.guard = none) (m x v : Operand) (hop : o.op = Op.mapUpdate 260 m x v)
    (hM : MapS w b n f) (hm : a.eval m = .map (some b)) (hn : n < maxLen) (k : ByteArray) (u : Int) (hx : a.eval x = .string k) (hv : a.eval v = .int .i64 u) (hk : k.size ≤ maxLen) (hu : (Lit.int .i64 u).wf = true)
    (hC : ∀ w', MapS w' b (n + 1) (updS f k u) → w.grownBy w' (some b) → wpList Tryz.prog ops Q rest (a.put o.dst undef) w') :
    wpList Tryz.prog ops Q (o :: rest) a w := by
  refine wpList_plain hg fun K' hK' => ?_
  obtain ⟨w', hrun, r1, r2⟩ := hM.put hk hu hn
  unfold Oper.wp
  simp [execOp, hop, hm, hx, hv, hrun, Result.andThen]
  exact hK' _ _ (hC w' r1 r2)
end Go.Proofs.YtdbgfidnccpmdaaGreat

/-
  A Full that comes in: opened; is it great?
-/
namespace Go.Proofs.YtdbgfidnccpmdaaGreat
open Go.RowKit
set_option linter.unusedVariables false

/-- A list of texts that may be read. -/
structure Strs (w : World) (a : Option Addr) (cap : Nat) (l : List ByteArray) : Prop where
  le : l.length ≤ cap
  most : cap ≤ maxLen
  nil : a = none → cap = 0
  sz : ∀ x ∈ l, x.size ≤ maxLen
  cell : l = [] ∨ ∃ b off, a = some ⟨b, off, none⟩ ∧ ∀ i, (hi : i < l.length) → w.cell? ⟨b, off + i, none⟩ = some (.string l[i])
theorem Strs.at {w : World} {a : Option Addr} {cap : Nat} {l : List ByteArray} (h : Strs w a cap l) (i : Nat) (hi : i < l.length) :
    ∃ b off x, a = some ⟨b, off, none⟩ ∧ x = l[i] ∧ x.size ≤ maxLen ∧ w.cell? ⟨b, off + i, none⟩ = some (.string x) := by
  rcases h.cell with rfl | ⟨b, off, rfl, h5⟩
  · simp at hi
  · exact ⟨b, off, l[i], rfl, rfl, h.sz _ (List.getElem_mem hi), h5 i hi⟩
theorem Strs.below {w w' : World} {a : Option Addr} {cap : Nat} {l : List ByteArray} (h : Strs w a cap l) (hb : Below w.heap.size w w') : Strs w' a cap l := by
  refine ⟨h.le, h.most, h.nil, h.sz, h.cell.imp id fun ⟨b, off, e, h5⟩ => ⟨b, off, e, fun i hi => ?_⟩⟩
  have h6 := h5 i hi
  exact (hb.cell (World.block_lt_of_cell? _ _ h6)).trans h6
theorem strs_of {w : World} {v : Value} (h : Leaf.holds w (.sl [.str]) v) : ∃ (l : List ByteArray) (a : Option Addr) (cap : Nat), v = .slice a l.length cap ∧ Strs w a cap l := by
  obtain ⟨l, a, cap, rfl, h1, h2, h3, h4, h5⟩ := recs_of h
  obtain ⟨m, hm, hp⟩ := list_of (fun i (x : ByteArray) => l[i]? = some [.string x] ∧ x.size ≤ maxLen) l.length (fun i hi => by
    obtain ⟨c0, r, e0, g0, h⟩ := allHold_cons (h4 _ (List.getElem_mem hi))
    obtain rfl := allHold_nil h
    obtain ⟨z0, rfl, k0⟩ := holds_str g0
    exact ⟨z0, by rw [List.getElem?_eq_getElem hi, e0], k0⟩)
  refine ⟨m, a, cap, by rw [hm], ⟨by omega, h2, h3, fun x hx => ?_, ?_⟩⟩
  · obtain ⟨i, hi, rfl⟩ := List.mem_iff_getElem.1 hx
    exact (hp i hi).2
  · rcases h5 with rfl | ⟨b, off, rfl, h6⟩
    · exact .inl (List.length_eq_zero_iff.1 hm)
    · refine .inr ⟨b, off, rfl, fun i hi => ?_⟩
      have hi2 : i < l.length := by omega
      have hq := (hp i (by omega)).1
      rw [List.getElem?_eq_getElem hi2, Option.some.injEq] at hq
      have a0 := h6 i hi2 0 (by decide)
      rw [hq] at a0
      simpa using a0
structure Ful where
  bits : Int
  ka : Option Addr
  kc : Nat
  keys : List ByteArray
  la : Option Addr
  lc : Nat
  lays : List (Int × Int × Int)
  key : ByteArray
  most : Int
  sa : Option Addr
  sc : Nat
  steps : List Int
def Ful.cells (f : Ful) : Array Value := #[.int .u8 f.bits, .slice f.ka f.keys.length f.kc, .slice f.la f.lays.length f.lc, .string f.key, .int .u8 f.most, .slice f.sa f.steps.length f.sc]
structure FulRd (w : World) (f : Ful) : Prop where
  bits : 0 ≤ f.bits ∧ f.bits < 256
  most : 0 ≤ f.most ∧ f.most < 256
  key : f.key.size ≤ maxLen
  keys : Strs w f.ka f.kc f.keys
  lays : Tri w f.la f.lc f.lays
  steps : By8 w f.sa f.sc f.steps
theorem FulRd.below {w w' : World} {f : Ful} (h : FulRd w f) (hb : Below w.heap.size w w') : FulRd w' f := ⟨h.bits, h.most, h.key, h.keys.below hb, h.lays.below hb, h.steps.below hb⟩
def fulLeaves : List Leaf := [.int .u8, .sl [.str], .sl [.int .u8, .int .u8, .int .u8], .str, .int .u8, .sl [.int .u8]]
theorem leaves_full : leaves Tryz.prog 5 130 = some fulLeaves := by kernel_rfl
theorem ful_of {w : World} {cs : List Value} (h : Leaf.allHold w fulLeaves cs) : ∃ f : Ful, cs = f.cells.toList ∧ FulRd w f := by
  unfold fulLeaves at h
  obtain ⟨c0, r, rfl, g0, h⟩ := allHold_cons h
  obtain ⟨c1, r, rfl, g1, h⟩ := allHold_cons h
  obtain ⟨c2, r, rfl, g2, h⟩ := allHold_cons h
  obtain ⟨c3, r, rfl, g3, h⟩ := allHold_cons h
  obtain ⟨c4, r, rfl, g4, h⟩ := allHold_cons h
  obtain ⟨c5, r, rfl, g5, h⟩ := allHold_cons h
  obtain rfl := allHold_nil h
  obtain ⟨z0, rfl, k0⟩ := holds_int g0
  obtain ⟨keys, ka, kc, rfl, hk⟩ := strs_of g1
  obtain ⟨lays, la, lc, rfl, hl⟩ := tri_of g2
  obtain ⟨z3, rfl, k3⟩ := holds_str g3
  obtain ⟨z4, rfl, k4⟩ := holds_int g4
  obtain ⟨steps, sa, sc, rfl, hs⟩ := by8_of g5
  exact ⟨⟨z0, ka, kc, keys, la, lc, lays, z3, z4, sa, sc, steps⟩, rfl, wf_u8 k0, wf_u8 k4, k3, hk, hl, hs⟩
set_option maxRecDepth 10000 in
theorem ful_open {H : Type} {w : World} {enc : TypeId × Value → H} {base : Nat} {v : Value} {d : DataW H} {p : List MemPlace} (k : DataW.Trod enc Tryz.prog w 0 (fun _ => true) true 130 v d p) (o : Value.okWide Tryz.prog w .any base 130 v) : ∃ f : Ful, v = .agg f.cells ∧ FulRd w f := by
  obtain ⟨cs, rfl, -⟩ := Go.WideShapes.okWide_struct Tryz.underlying130 o
  obtain ⟨f, hf, hr⟩ := ful_of (opened leaves_full k)
  refine ⟨f, ?_, hr⟩
  have : cs.toList = f.cells.toList := hf
  rw [Array.toList_inj.1 this]
end Go.Proofs.YtdbgfidnccpmdaaGreat

/-
  A Full: is it great?
-/
namespace Go.Proofs.YtdbgfidnccpmdaaGreat
open Go.RowKit Go.Maps
set_option linter.unusedVariables false

theorem ful_cells {W : World} {q : Nat} {f : Ful} (z : W.heap[q]? = some (.cells f.cells 130 (0, 0))) :
    W.cell? ⟨q, 0, none⟩ = some (.int .u8 f.bits) ∧ W.cell? ⟨q, 1, none⟩ = some (.slice f.ka f.keys.length f.kc) ∧ W.cell? ⟨q, 2, none⟩ = some (.slice f.la f.lays.length f.lc) ∧ W.cell? ⟨q, 3, none⟩ = some (.string f.key) ∧ W.cell? ⟨q, 4, none⟩ = some (.int .u8 f.most) ∧ W.cell? ⟨q, 5, none⟩ = some (.slice f.sa f.steps.length f.sc) :=
  ⟨hcell z 0, hcell z 1, hcell z 2, hcell z 3, hcell z 4, hcell z 5⟩
def FulGr (f : Ful) (w : World) (e : Ending) (w' : World) : Prop := ∃ g, e = .returned (.bool g) ∧ Below w.heap.size w w' ∧ (g = false → f.keys.length ≤ 40 ∧ f.lays.length ≤ 80 ∧ f.steps.length ≤ 400)
set_option maxRecDepth 100000 in
set_option maxHeartbeats 4000000 in
theorem ful_great (f : Ful) (w : World) (hr : FulRd w f) : Calls Tryz.prog 50 #[.agg f.cells] w (FulGr f w) := by
  have hB := below_alloc w (.cells f.cells 130)
  have z := heap_alloc_new w (.cells f.cells 130)
  have m1 : f.keys.length ≤ 9223372036854775807 := Nat.le_trans hr.keys.le (Nat.le_trans hr.keys.most (by unfold maxLen; decide))
  have m2 : f.lays.length ≤ 9223372036854775807 := Nat.le_trans hr.lays.le (Nat.le_trans hr.lays.most (by unfold maxLen; decide))
  have m3 : f.steps.length ≤ 9223372036854775807 := Nat.le_trans hr.steps.le (Nat.le_trans hr.steps.most (by unfold maxLen; decide))
  have HR := Lib.hid (hr.below hB); have HB := Lib.hid hB; have HZ := Lib.hid z
  clear hr hB z
  go_enter Tryz.func50, Tryz.ntmps50
  go_upto_region 1 with (fail)
  change Code.wp _ _ _ _ (w.alloc (.cells f.cells 130))
  obtain ⟨w1, hw1⟩ : ∃ w1, w1 = w.alloc (.cells f.cells 130) := ⟨_, rfl⟩
  rw [← hw1] at HR HB HZ ⊢
  clear hw1
  obtain ⟨e0, e1, e2, e3, e4, e5⟩ := ful_cells HZ.out
  generalize f.key = fk at *
  obtain ⟨y0, hy0⟩ : ∃ y0 : Int, y0 = (fk.size : Int) := ⟨_, rfl⟩
  clear hy0
  go_upto_block 0 with (fail)
  go_cut [3] (fun v3 wx => ∃ y : Int, v3 = .int .i64 y ∧ wx = w1)
  case first =>
    go_wp2_with fail
    go_loopw [3, 4] (fun v3 i wr => ∃ (k : Nat) (y : Int), k ≤ 60 ∧ k ≤ f.keys.length ∧ i = .int .i64 k ∧ v3 = .int .i64 y ∧ wr = w1) (fun _ i _ => 60 - (intOf i).toNat)
    case atStart => exact ⟨0, _, by omega, by omega, rfl, rfl, rfl⟩
    case round =>
      obtain ⟨k, y, hk1, hk, rfl, rfl, hw⟩ := hrel
      subst hw
      by_cases hlt : k < f.keys.length ∧ k < 60
      · have t1 : (k : Int) < f.keys.length := by omega
        have t2 : (k : Int) < 60 := by omega
        obtain ⟨b, off, x, hka, hx, hsz, hc⟩ := HR.out.keys.at k hlt.1
        have HLT := Lib.hid hlt
        rw [hka] at e1
        clear hx hlt hk hk1 hsz hka
        go_wp2
        all_goals go_roundw
        all_goals (first
          | exact ⟨k + 1, _, by have := HLT.out; omega, by have := HLT.out; omega, by go_num, rfl, by first | rfl | trivial⟩
          | (have := HLT.out; simp [intOf]; omega))
      · rcases (by omega : ¬ k < f.keys.length ∨ (k < f.keys.length ∧ ¬ k < 60)) with hn | ⟨hn1, hn2⟩
        · have t1 : ¬ (k : Int) < f.keys.length := by omega
          clear hlt hn
          go_wp2
          all_goals go_meet
          all_goals exact ⟨y, rfl, rfl⟩
        · have t1 : (k : Int) < f.keys.length := by omega
          have t2 : ¬ (k : Int) < 60 := by omega
          clear hlt hn1 hn2
          go_wp2
          all_goals go_meet
          all_goals exact ⟨y, rfl, rfl⟩
  case rest =>
  obtain ⟨y, rfl, hw⟩ := hcut
  subst hw
  by_cases t0 : 4000 < y
  · go_wp2
    go_ret
    exact ⟨true, rfl, HB.out, fun h => by cases h⟩
  · by_cases t1 : 40 < f.keys.length
    · have t1' : (40 : Int) < f.keys.length := by omega
      go_wp2
      go_ret
      exact ⟨true, rfl, HB.out, fun h => by cases h⟩
    · have t1' : ¬ (40 : Int) < f.keys.length := by omega
      by_cases t2 : 80 < f.lays.length
      · have t2' : (80 : Int) < f.lays.length := by omega
        go_wp2
        go_ret
        exact ⟨true, rfl, HB.out, fun h => by cases h⟩
      · have t2' : ¬ (80 : Int) < f.lays.length := by omega
        by_cases t3 : 400 < f.steps.length
        · have t3' : (400 : Int) < f.steps.length := by omega
          go_wp2
          go_ret
          exact ⟨true, rfl, HB.out, fun h => by cases h⟩
        · have t3' : ¬ (400 : Int) < f.steps.length := by omega
          have P := Lib.hid (show f.keys.length ≤ 40 ∧ f.lays.length ≤ 80 ∧ f.steps.length ≤ 400 by omega)
          clear t1 t2 t3
          go_wp2
          go_ret
          exact ⟨false, rfl, HB.out, fun _ => P.out⟩
end Go.Proofs.YtdbgfidnccpmdaaGreat

/-
  The world of a Full.
-/
namespace Go.Proofs.YtdbgfidnccpmdaaGreat
open Go.RowKit Go.Maps TagPure
set_option linter.unusedVariables false

/-- The record of a key. -/
def kitm (k : ByteArray) : Itm := ⟨k, ⟨#[]⟩, 0, 0, -1, 0⟩
def fitms (f : Ful) : List Itm := f.keys.map kitm
def fbits (f : Ful) : Int := 1 + f.bits % 3
theorem fbits_in (f : Ful) : 1 ≤ fbits f ∧ fbits f ≤ 3 := by unfold fbits; omega
/-- A slot has an item of the key. -/
def HasK (its : List Itm) (v : Int → Int) (b : Int) (key : ByteArray) (u k : Int) : Prop := ∃ (n : Nat) (y : Itm), its[n]? = some y ∧ y.key = key ∧ (slA v b u k).2 = (n : Int) + 1
/-- What a table is, in which each key stands once at most; 'had': which keys do. -/
structure FTb (b : Int) (its : List Itm) (had : ByteArray → Int) (v : Int → Int) : Prop where
  tbl : Tbl b its v
  bd : Word v
  ev : ∀ a, 64 ≤ a → a < 128 → v a % 2 = 0
  had_ : ∀ key, had key = 0 → ∀ u k, SIn b u k → ¬ HasK its v b key u k
  one : ∀ key u k u' k', SIn b u k → SIn b u' k' → HasK its v b key u k → HasK its v b key u' k' → u = u' ∧ k = k'
  zv : ∀ a, 64 ≤ a → a < 128 → v a = 0
theorem FTb.start {b : Int} {its : List Itm} (hb : 1 ≤ b ∧ b ≤ 3) : FTb b its (fun _ => 0) (CS.init [(2, tword b 0)]).val := by
  have hv : ∀ a, (CS.init [(2, tword b 0)]).val a = if a = 2 then tword b 0 else 0 := fun a => rfl
  have hz : ∀ u k, SIn b u k → slA (CS.init [(2, tword b 0)]).val b u k = (0, 0) := fun u k h => by
    have e1 := h.tags; have e2 := h.item; have e3 := h.size; have e4 := h.u0; have e5 := h.k0
    unfold slA
    rw [hv, hv, if_neg (by omega), if_neg (by omega)]
    unfold tagOf tg
    split <;> simp
  have hno : ∀ key u k, SIn b u k → ¬ HasK its (CS.init [(2, tword b 0)]).val b key u k := fun key u k h ⟨n, y, _, _, h3⟩ => by
    rw [hz u k h] at h3
    simp only at h3; omega
  have hw : 0 ≤ tword b 0 ∧ tword b 0 < 65536 := by unfold tword; omega
  refine ⟨⟨hb.1, hb.2, by rw [hv, if_pos rfl], fun u k h => .inl (hz u k h)⟩, fun a => ?_, fun a h1 h2 => ?_, fun key _ => hno key, fun key u k u' k' h1 h2 h3 => absurd h3 (hno key u k h1), fun a h1 h2 => by rw [hv, if_neg (by omega)]⟩
  · rw [hv]; split <;> omega
  · rw [hv, if_neg (by omega)]; rfl
theorem pst_val {s : CS} {b u k t r : Int} : (pst s (tagsA b u) (itemA b u k) k t r 3).val = fun a => upd (upd (upd s.val (itemA b u k) r) (tagsA b u) (upd s.val (itemA b u k) r (tagsA b u))) (tagsA b u) (withOf (upd s.val (itemA b u k) r (tagsA b u)) k t) a := rfl
theorem pst_hv2 {s : CS} {b u k t r : Int} : (pst s (tagsA b u) (itemA b u k) k t r 3).val = hv2 s.val b u k t r := by
  rw [pst_val]
  unfold hv2 hvt hvi
  funext a
  unfold upd
  split <;> rfl
theorem FTb.lay {b : Int} {its : List Itm} {had : ByteArray → Int} {s : CS} (h : FTb b its had s.val) {r : Nat} {x : Itm} (hx : its[r]? = some x) (hr : r ≤ 900) (hh : had x.key = 0) {pl sl : Int} (h0 : tagOf (s.val (tagsA b (layU (hashOf x.key) b pl))) (sl % 4) = 0) :
    FTb b its (updS had x.key 1) (layS s (hashOf x.key) b pl sl ((r : Int) + 1)).val := by
  obtain ⟨ha0, ha1⟩ := hfold_bd x.key x.key.size
  have hb : 1 ≤ b ∧ b ≤ 3 := ⟨h.tbl.b1, h.tbl.b3⟩
  have hsin := lay_sin (h := hashOf x.key) (pl := pl) (sl := sl) ha0 ha1 hb
  have htb := tag01_bd (hashOf x.key) ha0 ha1
  have hu := layU_in (h := hashOf x.key) (pl := pl) hb
  unfold layS
  rw [if_pos h0, pst_hv2]
  generalize layU (hashOf x.key) b pl = u at *
  generalize sl % 4 = k at *
  have hsl : ∀ {u' k'}, SIn b u' k' → slA (hv2 s.val b u k (tag01 (hashOf x.key)) ((r : Int) + 1)) b u' k' = if u' = u ∧ k' = k then (tag01 (hashOf x.key), (r : Int) + 1) else slA s.val b u' k' := fun hs => sl_hv2 hsin (by omega) (h.bd _).1 hs
  have hk : ∀ key u' k', SIn b u' k' → HasK its (hv2 s.val b u k (tag01 (hashOf x.key)) ((r : Int) + 1)) b key u' k' → (u' = u ∧ k' = k ∧ x.key = key) ∨ (¬ (u' = u ∧ k' = k) ∧ HasK its s.val b key u' k') := by
    intro key u' k' hs ⟨n, y, h1, h2, h3⟩
    rw [hsl hs] at h3
    by_cases e : u' = u ∧ k' = k
    · rw [if_pos e] at h3
      have : n = r := by simp only at h3; omega
      subst this
      rw [hx] at h1; cases h1
      exact .inl ⟨e.1, e.2, h2⟩
    · rw [if_neg e] at h3
      exact .inr ⟨e, n, y, h1, h2, h3⟩
  refine ⟨⟨hb.1, hb.2, ?_, fun u' k' hs => ?_⟩, ?_, fun a h1 h2 => ?_, fun key hz u' k' hs hc => ?_, fun key a c a' c' hs hs' h1 h2 => ?_, fun a h1 h2 => by rw [hv2_far hsin (by omega)]; exact h.zv a h1 h2⟩
  · rw [hv2_far hsin (by omega)]; exact h.tbl.word
  · rw [hsl hs]
    split
    · rename_i e
      exact .inr ⟨r, x, hx, rfl, by rw [e.1]; exact hu⟩
    · exact h.tbl.slot u' k' hs
  · have b1 := upd_bd h.bd (itemA b u k) (y := (r : Int) + 1) (by omega)
    exact upd_bd b1 (tagsA b u) (withOf_bd _ k (tag01 (hashOf x.key)) (b1 _))
  · rw [hv2_far hsin (by omega)]; exact h.ev a h1 h2
  · have hkey : key ≠ x.key := fun c => by subst c; unfold updS at hz; rw [if_pos rfl] at hz; cases hz
    have hz' : had key = 0 := by unfold updS at hz; rwa [if_neg hkey] at hz
    rcases hk key u' k' hs hc with ⟨_, _, e⟩ | ⟨_, e⟩
    · exact hkey e.symm
    · exact h.had_ key hz' u' k' hs e
  · rcases hk key a c hs h1 with ⟨e1, e2, e3⟩ | ⟨e1, e2⟩
    · rcases hk key a' c' hs' h2 with ⟨f1, f2, f3⟩ | ⟨f1, f2⟩
      · exact ⟨e1.trans f1.symm, e2.trans f2.symm⟩
      · subst e3; exact absurd f2 (h.had_ _ hh a' c' hs')
    · rcases hk key a' c' hs' h2 with ⟨f1, f2, f3⟩ | ⟨f1, f2⟩
      · subst f3; exact absurd e2 (h.had_ _ hh a c hs)
      · exact h.one key a c a' c' hs hs' e2 f2
/-- What a Full's world is. -/
structure FW (w0 w : World) (B : WB) (b : Int) (its : List Itm) (s : CS) (had : ByteArray → Int) (m : Nat) (fm : List (Nat × Array MapEntry × Nat)) : Prop where
  ws : WS w0 w B { v0 ⟨b, 8, 3, 1, 16⟩ with its := its, fm := fm } s
  tb : FTb b its had s.val
  bd : s.n ≤ 1 + 3 * m ∧ s.cnt ≤ 3 * m
theorem mapS_of {w w' : World} {m n : Nat} {g : ByteArray → Int} {es : Array MapEntry} {cl : Nat} (h : MapS w m n g) (h1 : w.heap[m]? = some (.map es cl)) (h2 : w'.heap[m]? = some (.map es cl)) : MapS w' m n g := h.keep (h2.trans h1.symm)
theorem FW.item {w0 w : World} {B : WB} {b : Int} {its : List Itm} {s : CS} {had : ByteArray → Int} {m : Nat} {fm : List (Nat × Array MapEntry × Nat)} (h : FW w0 w B b its s had m fm) : True := trivial
theorem fw_apart {w0 w w' : World} {B : WB} {V : WV} {s : CS} (h : WS w0 w B V s) (hb : Below w.heap.size w w') {m : Nat} (hm : w.heap.size ≤ m) : w'.cell? ⟨B.cb, 0, none⟩ ≠ some (.map (some m)) := by
  obtain ⟨cs, hh⟩ := own_hdr h.own
  have e : w'.cell? ⟨B.cb, 0, none⟩ = w.cell? ⟨B.cb, 0, none⟩ := by
    have := (hb.block _ (Array.getElem?_eq_some_iff.1 hh).1).trans hh
    unfold World.cell?; simp only; rw [this, hh]
  rw [e]; exact h.apart hm
theorem w64s {x y : Int} (h : x = y) (h0 : 0 ≤ y ∧ y < 1000000) : wrap64 x = y := by rw [h]; exact IntWalk.wrap64_in _ (by omega)
def FWPost (w : World) (f : Ful) (e : Ending) (w' : World) : Prop := ∃ w1 B s had, Below w.heap.size w w1 ∧ e = .returned (.pointer (some ⟨B.wb, 0, none⟩)) ∧ FW w1 w' B (fbits f) (fitms f) s had 80 []
/-- On the way through the lays. -/
structure FLp (w0 w : World) (B : WB) (b : Int) (its : List Itm) (mb k : Nat) : Prop where
  ex : ∃ s had es cl n, FW w0 w B b its s had k [(mb, es, cl)] ∧ MapS w mb n had ∧ n ≤ k
  lo : w0.heap.size ≤ mb
set_option maxRecDepth 100000 in
set_option maxHeartbeats 8000000 in
theorem ful_world (f : Ful) (w : World) (hr : FulRd w f) (hkl : f.keys.length ≤ 40) (hll : f.lays.length ≤ 80) : Calls Tryz.prog 51 #[.agg f.cells] w (FWPost w f) := by
  obtain ⟨b, hb0⟩ : ∃ b, b = fbits f := ⟨_, rfl⟩
  have HB0 := Lib.hid hb0
  have hB := below_alloc w (.cells f.cells 130)
  have z := heap_alloc_new w (.cells f.cells 130)
  have HR := Lib.hid (hr.below hB); have HB := Lib.hid hB; have HZ := Lib.hid z
  have hbt := hr.bits
  have e3 : wrap64 (1 + f.bits.tmod 3) = fbits f := by
    unfold fbits
    rw [Int.tmod_eq_emod_of_nonneg hbt.1, IntWalk.wrap64_in _ (by omega)]
  have e2 : wrap64 (f.bits.tmod 3) = f.bits.tmod 3 := by
    rw [Int.tmod_eq_emod_of_nonneg hbt.1, IntWalk.wrap64_in _ (by omega)]
  have hbi := fbits_in f
  have HBI := Lib.hid hbi
  rw [← hb0] at e3 HBI hbi
  have hnw := fun W => world12w b (by omega) W
  have HL := Lib.hid hkl; have HLL := Lib.hid hll
  clear hr hB z hbt hbi hkl hll hb0
  have hmm := @run_makeMap Tryz.prog
  go_enter Tryz.func51, Tryz.ntmps51
  go_upto_region 1 with (fail)
  change Code.wp _ _ _ _ (w.alloc (.cells f.cells 130))
  obtain ⟨w1, hw1⟩ : ∃ w1, w1 = w.alloc (.cells f.cells 130) := ⟨_, rfl⟩
  rw [← hw1] at HR HB HZ ⊢
  clear hw1
  obtain ⟨c0, c1, c2, -, -, -⟩ := ful_cells HZ.out
  go_upto_region 4 with (go_at_call 87; (with_reducible refine (hnw _).mono ?_); intro e w2 hh; obtain ⟨B, hh1, h2⟩ := hh; subst hh1; have H2 := Lib.hid h2; clear h2 hnw c0 c1 c2 e2 e3)
  go_upto_region 5 with (fail)
  have hb3 := below_alloc w2 (.map #[] 0)
  have hz3 := heap_alloc_new w2 (.map #[] 0)
  have hm3 := MapS.made w2
  have HN3 := Lib.hid (fw_apart H2.out hb3 (Nat.le_refl _))
  have HL3 := Lib.hid H2.out.below.size
  have H3 := Lib.hid ((H2.out.keep hb3).more hz3 HN3.out)
  change Code.wp _ _ _ _ (w2.alloc (.map #[] 0))
  clear hb3 H2 hmm
  generalize w2.alloc (.map #[] 0) = w3 at *
  generalize w2.heap.size = mb at *
  have HM3 := Lib.hid hm3; have HZ3 := Lib.hid hz3
  clear hm3 hz3
  obtain ⟨s0, hs0⟩ : ∃ s0, s0 = CS.init [(2, tword b 0)] := ⟨_, rfl⟩
  rw [← hs0] at H3
  have HS0 := Lib.hid hs0
  clear hs0
  go_wp2_with fail
  go_loopw [5] (fun i wr => ∃ k : Nat, k ≤ f.keys.length ∧ i = .int .i64 k ∧ WS w1 wr B { v0 ⟨b, 8, 3, 1, 16⟩ with its := (fitms f).take k, fm := [(mb, #[], 0)] } s0) (fun i _ => f.keys.length - (intOf i).toNat)
  case atStart => exact ⟨0, by omega, rfl, H3.out⟩
  case round =>
    clear H3
    obtain ⟨k, hk, rfl, hws⟩ := hrel
    have z := (hws.below.block _ (Array.getElem?_eq_some_iff.1 HZ.out).1).trans HZ.out
    obtain ⟨-, c1, c2, -, -, -⟩ := ful_cells z
    clear z
    by_cases hlt : k < f.keys.length
    · have hlt' : (k : Int) < f.keys.length := by omega
      have hkl := HL.out
      obtain ⟨kb, off, x, hka, hx, hxs, hc⟩ := (HR.out.keys.below hws.below).at k hlt
      rw [hka] at c1
      have x1 := fun st : ExtW wr => st.cell c1
      have x2 := fun st : ExtW wr => st.cell hc
      have x3 := fun st : ExtW wr => st.cell hws.hd5.2.1
      have hit : ∀ W, Below wr.heap.size wr W → Calls Tryz.prog 93 #[.pointer (some ⟨B.ib, 0, none⟩), .agg #[.string x, .string ⟨#[]⟩, .int .u32 0, .int .u64 0, .int .i64 (-1), .int .i64 0]] W _ := fun W hW => (hws.keep hW).item (kitm x) (by show ((fitms f).take k).length < 1048576; simp [fitms]; have := HL.out; omega)
      have HX := Lib.hid (show f.keys[k]? = some x by rw [hx]; exact List.getElem?_eq_getElem hlt); have HLT := Lib.hid hlt; have HIT := Lib.hid hit; have HWS := Lib.hid hws
      clear hws hka hx hxs hc hit hlt hk c2
      go_upto_region 8 with (fail)
      clear c1
      refine wp_region_ext_tail 10 (by kernel_rfl) (by kernel_rfl) ?_
      simp only [List.take_succ_cons, List.take_zero, List.drop_succ_cons, List.drop_zero]
      repeat (go_big_quiet_step (fail))
      refine wpQuiet_nil ?_
      rintro W ⟨⟨W2, hW⟩, rfl⟩
      clear x1 x2 x3
      have hi2 := HIT.out W hW
      clear hW
      go_wp2_with (go_at_call 93; refine hi2.mono ?_; intro e w4 hh; obtain ⟨hh1, h4, f4⟩ := hh; subst hh1; have H4 := Lib.hid h4; clear h4 f4 hi2)
      go_roundw
      case rel =>
        refine ⟨k + 1, HLT.out, by go_num, ?_⟩
        have e : (fitms f).take (k + 1) = (fitms f).take k ++ [kitm x] := by
          unfold fitms
          rw [List.take_add_one, List.getElem?_map, HX.out]; rfl
        rw [e]; exact H4.out
      case measure => have := HLT.out; simp [intOf]; omega
    · obtain rfl : k = f.keys.length := by omega
      rw [show (fitms f).take f.keys.length = fitms f from List.take_of_length_le (by simp [fitms])] at hws
      have hs := CS.init_n [(2, tword b 0)]
      rw [← HS0.out] at hs
      have HF0 : Hid (FW w1 wr B b (fitms f) s0 (fun _ => 0) 0 [(mb, #[], 0)]) := Lib.hid ⟨hws, by rw [HS0.out]; exact FTb.start HBI.out, by rw [hs.1, hs.2.1]; simp⟩
      have HM0 := Lib.hid (mapS_of HM3.out HZ3.out (hws.fmk _ (List.mem_singleton.2 rfl)).1)
      clear hws c2 hlt hk hs
      go_wp2_with fail
      clear c1
      go_loopw [6] (fun i wr => ∃ (k : Nat) (s : CS) (had : ByteArray → Int) (es : Array MapEntry) (cl n : Nat), k ≤ f.lays.length ∧ i = .int .i64 k ∧ FW w1 wr B b (fitms f) s had k [(mb, es, cl)] ∧ MapS wr mb n had ∧ n ≤ k) (fun i _ => f.lays.length - (intOf i).toNat)
      case atStart => exact ⟨0, s0, _, _, _, 0, by omega, rfl, HF0.out, HM0.out, Nat.le_refl _⟩
      case round =>
        clear HF0 HM0
        obtain ⟨k, s, had, es, cl, n, hk, rfl, hf, hM, hn⟩ := hrel
        have z := (hf.ws.below.block _ (Array.getElem?_eq_some_iff.1 HZ.out).1).trans HZ.out
        obtain ⟨-, c1, c2, -, -, -⟩ := ful_cells z
        clear z
        have hll := HLL.out
        by_cases hlt : k < f.lays.length
        · have hlt' : (k : Int) < f.lays.length := by omega
          by_cases hkz : f.keys.length = 0
          · have d0 : ¬ (0 : Int) < (f.keys.length : Int) := by omega
            have HF := Lib.hid hf
            have HKZ := Lib.hid hkz
            clear hf hM hn hkz hlt hk
            go_wp2_with fail
            go_ret
            have h := HF.out
            exact ⟨w1, B, s, had, HB.out, rfl, by rw [← HB0.out]; exact ⟨h.ws.less [] (by intro q hq; cases hq), h.tb, by have := h.bd; omega⟩⟩
          · have d0 : (0 : Int) < (f.keys.length : Int) := by omega
            have hne : ¬ f.keys = [] := fun c => hkz (by rw [c]; rfl)
            have hkl := HL.out
            obtain ⟨lb, off, a0, a1, a2, hla, ⟨ha0, ha1, ha2⟩, y0, y1, y2⟩ := (HR.out.lays.below hf.ws.below).at k hlt
            obtain ⟨r, hr⟩ : ∃ r : Nat, (r : Int) = a0 % (f.keys.length : Int) := ⟨(a0 % (f.keys.length : Int)).toNat, by have := Int.emod_nonneg a0 (show (f.keys.length : Int) ≠ 0 by omega); omega⟩
            have hrl : r < f.keys.length := by have := Int.emod_lt_of_pos a0 d0; omega
            have er : a0.tmod (f.keys.length : Int) = (r : Int) := by rw [Int.tmod_eq_emod_of_nonneg ha0.1, hr]
            have hrl' : (r : Int) < f.keys.length := by omega
            have g1 : 1 + (r : Int) = (r : Int) + 1 := by omega
            have g2 : (r : Int) + 1 - 1 = (r : Int) := by omega
            have g3 : (0 : Int) ≤ (r : Int) + 1 ∧ (r : Int) + 1 < 1000000 := by omega
            have g4 : (0 : Int) ≤ (r : Int) ∧ (r : Int) < 1000000 := by omega
            have g5 : 0 ≤ a0 ∧ a0 < 1000000 := by omega
            have ew : wrap64 a0 = a0 := w64s rfl g5
            have e1 : wrap64 (1 + (r : Int)) = (r : Int) + 1 := w64s g1 g3
            have e2 : wrap64 ((r : Int) + 1 - 1) = (r : Int) := w64s g2 g4
            clear g1 g2 g3 g4 g5
            obtain ⟨kb, koff, x, hka, hx, hxs, hc⟩ := (HR.out.keys.below hf.ws.below).at r hrl
            rw [hka] at c1
            rw [hla] at c2
            have x1 := fun st : ExtW wr => st.cell c1
            have x2 := fun st : ExtW wr => st.cell c2
            have x3 := fun st : ExtW wr => st.cell y0
            have HX := Lib.hid (show f.keys[r]? = some x by rw [hx]; exact List.getElem?_eq_getElem hrl)
            have HLT := Lib.hid hlt; have HF := Lib.hid hf; have HM := Lib.hid hM; have HN := Lib.hid hn; have HXS := Lib.hid hxs; have HA1 := Lib.hid ha1; have HA2 := Lib.hid ha2
            clear hf hM hn hkz hlt hk hx hxs ha1 ha2 hr hka hla hrl
            go_upto_region 12 with (fail)
            refine wp_region_ext (by kernel_rfl) (by kernel_rfl) ?_
            repeat (go_big_quiet_step (fail))
            refine wpQuiet_nil ?_
            rintro W ⟨⟨W2, hW⟩, rfl⟩
            have hf := HF.out
            have hws1 := hf.ws.keep hW
            have z1 := (hws1.below.block _ (Array.getElem?_eq_some_iff.1 HZ.out).1).trans HZ.out
            obtain ⟨-, c1, c2, -, -, -⟩ := ful_cells z1
            obtain ⟨kb', koff', x', hka', hx', -, hc⟩ := (HR.out.keys.below hws1.below).at r (by have := (List.getElem?_eq_some_iff.1 HX.out).1; exact this)
            have hxx : x' = x := by
              have := HX.out
              rw [List.getElem?_eq_getElem (List.getElem?_eq_some_iff.1 HX.out).1, ← hx'] at this
              exact Option.some.inj this
            rw [hxx] at hc
            rw [hka'] at c1
            have HM1 := Lib.hid (HM.out.below hW)
            have HWS1 := Lib.hid hws1
            obtain ⟨lb2, off2, a9, a1, a2, hla2, ⟨-, ha1, ha2⟩, -, y1, y2⟩ := (HR.out.lays.below hws1.below).at k HLT.out
            rw [hla2] at c2
            have x2 := fun st : ExtW W => st.cell c2
            have x4 := fun st : ExtW W => st.cell y1
            have x5 := fun st : ExtW W => st.cell y2
            clear hf hws1 z1 hx' hxx hka' hW hla2
            go_upto_region 14 with (fail)
            clear c1 c2 hc y1 y2
            obtain ⟨hv, hhv⟩ : ∃ hv, hv = had x := ⟨_, rfl⟩
            have hlk : ∀ st : ExtW W, (Instr.lookup 260 (.map (some mb)) (.string x) false).run Tryz.prog st.val = .ok (.int .i64 hv) st.val := fun st => by rw [hhv]; exact (HM1.out.below st.below).look HXS.out
            have HHV := Lib.hid hhv
            have HA1 := Lib.hid ha1; have HA2 := Lib.hid ha2
            clear hhv ha1 ha2
            by_cases hz : hv = 0
            · rw [hz] at hlk
              have HZ0 := Lib.hid (HHV.out.symm.trans hz)
              clear hz
              have hxi : (fitms f)[r]? = some (kitm x) := by unfold fitms; rw [List.getElem?_map, HX.out]; rfl
              have hil : (fitms f).length ≤ 1000 := by unfold fitms; rw [List.length_map]; omega
              have hmm : s.n ≤ 1 + 3 * k ∧ s.cnt ≤ 1 + 3 * k := by have := HF.out.bd; omega
              have hml : 1 + 3 * k + 3 < lim := by unfold lim; omega
              have hlay := fun W' (hW' : Below W.heap.size W W') => lay_any (HWS1.out.keep hW') (1 + 3 * k) hmm hml hil hxi HXS.out HBI.out HF.out.tb.tbl.word a1 a2 HA1.out HA2.out
              obtain ⟨s', hs'⟩ : ∃ s', s' = layS s (hashOf (kitm x).key) b a1 a2 ((r : Int) + 1) := ⟨_, rfl⟩
              obtain ⟨bb, hbb⟩ : ∃ bb, bb = (tagOf (s.val (tagsA b (layU (hashOf (kitm x).key) b a1))) (a2 % 4) == 0) := ⟨_, rfl⟩
              rw [← hs', ← hbb] at hlay
              have HXI := Lib.hid hxi; have HS1 := Lib.hid hs'; have HBB := Lib.hid hbb; have HLAY := Lib.hid hlay
              clear hxi hil hmm hml hlay hs' hbb
              refine wp_region_ext_tail 19 (by kernel_rfl) (by kernel_rfl) ?_
              simp only [List.take_succ_cons, List.take_zero, List.drop_succ_cons, List.drop_zero]
              repeat (go_big_quiet_step (fail))
              refine wpQuiet_nil ?_
              rintro W3 ⟨⟨W4, hW3⟩, rfl⟩
              have hl3 := HLAY.out W3 hW3
              rw [show ((r : Int) + 1) = 1 + (r : Int) from Int.add_comm _ _] at hl3
              have HM3 := Lib.hid (HM1.out.below hW3)
              have HW3 := Lib.hid (HWS1.out.keep hW3)
              clear hW3 x2 x4 x5 hlk
              cases bb
              · go_wp2_with (go_at_call 133; (with_reducible refine hl3.mono ?_); intro e w5 hh; obtain ⟨hh1, h5, f5⟩ := hh; subst hh1; have H5 := Lib.hid h5; clear h5 f5 hl3)
                go_roundw
                case rel =>
                  have e : s' = s := by
                    rw [HS1.out]; unfold layS
                    rw [if_neg (by simpa using HBB.out.symm)]
                  have hf := HF.out
                  have hn := HN.out
                  refine ⟨k + 1, s, had, es, cl, n, HLT.out, by go_num, ⟨by rw [← e]; exact H5.out, hf.tb, by have := hf.bd; omega⟩, ?_, by omega⟩
                  exact mapS_of HM3.out (HW3.out.fmk _ (List.mem_singleton.2 rfl)).1 (H5.out.fmk _ (List.mem_singleton.2 rfl)).1
                case measure => have := HLT.out; simp [intOf]; omega
              · go_upto_region 15 with (go_at_call 133; (with_reducible refine hl3.mono ?_); intro e w5 hh; obtain ⟨hh1, h5, f5⟩ := hh; subst hh1; have H5 := Lib.hid h5; clear h5 f5 hl3)
                have hM5 := mapS_of HM3.out (HW3.out.fmk _ (List.mem_singleton.2 rfl)).1 (H5.out.fmk _ (List.mem_singleton.2 rfl)).1
                have hnm : n < maxLen := by have := HN.out; unfold maxLen; omega
                go_wp2_with (at_mapUpdate; refine wpList_puts rfl _ _ _ rfl hM5 rfl hnm x 1 rfl rfl HXS.out (by decide) ?_; intro w8 hM8 hg8; have HM8 := Lib.hid hM8; have HG8 := Lib.hid hg8; clear hM8 hg8 hM5 hnm)
                go_roundw
                case rel =>
                  have hf := HF.out
                  have hn := HN.out
                  have hq5 := H5.out.fmk _ (List.mem_singleton.2 rfl)
                  have h6 := H5.out.less [] (by intro q hq; cases hq)
                  obtain ⟨h7, hne7⟩ := h6.turn hq5.1 hq5.2 HL3.out HG8.out (by intro q hq; cases hq)
                  obtain ⟨es', cl', hb8⟩ := HM8.out.blk
                  have h8 := h7.more hb8 hne7
                  have hx : (kitm x).key = x := rfl
                  have htb := hf.tb.lay HXI.out (by have h1 := (List.getElem?_eq_some_iff.1 HXI.out).1; unfold fitms at h1; rw [List.length_map] at h1; have := HL.out; omega) HZ0.out (pl := a1) (sl := a2) (by simpa using HBB.out.symm)
                  rw [← HS1.out] at htb
                  refine ⟨k + 1, s', updS had x 1, es', cl', n + 1, HLT.out, by go_num, ⟨h8, htb, ?_⟩, HM8.out, by omega⟩
                  have hb := hf.bd
                  have hle : s'.n ≤ s.n + 3 ∧ s'.cnt ≤ s.cnt + 3 := by
                    rw [HS1.out]; unfold layS; split
                    · exact ⟨by show s.n + 1 + 1 + 1 ≤ s.n + 3; omega, by show s.cnt + 1 + 1 + 1 ≤ s.cnt + 3; omega⟩
                    · omega
                  omega
                case measure => have := HLT.out; simp [intOf]; omega
            · have hzb : (hv == 0) = false := beq_eq_false_iff_ne.2 hz
              clear hz
              refine wp_region_ext (by kernel_rfl) (by kernel_rfl) ?_
              repeat (go_big_quiet_step (fail))
              refine wpQuiet_nil ?_
              rintro W3 ⟨⟨W4, hW3⟩, rfl⟩
              have HM3 := Lib.hid (HM1.out.below hW3)
              have HW3 := Lib.hid (HWS1.out.keep hW3)
              clear hW3 x2 x4 x5 hlk
              go_wp2_with fail
              go_roundw
              case rel =>
                have hf := HF.out
                have hn := HN.out
                exact ⟨k + 1, s, had, es, cl, n, HLT.out, by go_num, ⟨HW3.out, hf.tb, by have := hf.bd; omega⟩, HM3.out, by omega⟩
              case measure => have := HLT.out; simp [intOf]; omega
        · have HF := Lib.hid hf
          have HK := Lib.hid (show k ≤ 80 by omega)
          have t0 : ¬ (k : Int) < f.lays.length := by omega
          clear hf hM hn hlt hk
          go_wp2_with fail
          go_ret
          have h := HF.out
          have hk80 := HK.out
          exact ⟨w1, B, s, had, HB.out, rfl, by rw [← HB0.out]; exact ⟨h.ws.less [] (by intro q hq; cases hq), h.tb, by have := h.bd; omega⟩⟩
end Go.Proofs.YtdbgfidnccpmdaaGreat

/-
  Layer 16: a Way is made and runs by itself.
-/
namespace Go.Proofs.YtdbgfidnccpmdaaGreat
open Go.RowKit Go.Maps TagPure
set_option linter.unusedVariables false

theorem own_loW {w : World} {base b2 e size n : Nat} {v : Value} {xs : List Value} (h : w.ownsRow base e size v n xs) (hl : b2 ≤ base) : w.ownsRow b2 e size v n xs := by
  obtain ⟨h1, h2 | ⟨g, cap, cur, rfl, hb, hg, r⟩⟩ := h
  · exact ⟨h1, .inl h2⟩
  · exact ⟨h1, .inr ⟨g, cap, cur, rfl, Nat.le_trans hl hb, hg, r⟩⟩
theorem WayAt.lower {w : World} {lo lo' xb : Nat} {x : WY} (h : WayAt w lo xb x) (hl : lo' ≤ lo) : WayAt w lo' xb x := by
  obtain ⟨h0, ⟨vb, vw, h1, h2, h3, h4⟩, h5, h6, h7⟩ := h
  exact ⟨Nat.le_trans hl h0, ⟨vb, vw, h1, own_loW h2 hl, own_loW h3 hl, h4⟩, fun m hm => ⟨Nat.le_trans hl (h5 m hm).1, (h5 m hm).2⟩, h6, h7⟩
theorem way_fresh {w0 w w1 : World} {B : WB} {V : WV} {s : CS} {m : Nat} (h : WS w0 w B V s) (hb : Below w.heap.size w w1) (hm : w.heap.size ≤ m) : Besd w1 B V m := by
  refine ⟨fun c => ?_, fun q hq e => ?_⟩
  · obtain ⟨⟨S', hS'⟩, -⟩ := h.own
    obtain ⟨mo, f, hA, rfl⟩ := hS'
    have e : w1.cell? ⟨B.cb, 0, none⟩ = some (.map mo) := by
      have h1 := (hb.block _ (Array.getElem?_eq_some_iff.1 hA.hdr).1).trans hA.hdr
      rw [hcell h1]; rfl
    rw [e] at c
    simp only [Option.some.injEq, Value.map.injEq] at c
    have := (hA.map m c).1.lt
    omega
  · have := (Array.getElem?_eq_some_iff.1 (h.fmk q hq).1).1
    omega
theorem wnew_ok2 {bits most a b : Int} {kb m : Nat} (hb : 1 ≤ bits ∧ bits ≤ 12) (ha : 0 ≤ a ∧ a < tsize bits) (hb2 : 0 ≤ b ∧ b < tsize bits) : WyOk (wnew bits most a b kb m) := by
  have hp := tsize_pos hb
  have hsh := wfirst_sh (N := (tsize bits).toNat) (fun _ _ => 0) (fun _ => 0) (a := a) (b := b) (by omega) (by omega)
  refine ⟨hb, hsh.win, hsh.ahead, fun _ => ?_, fun _ => rfl, Nat.zero_le _, rfl⟩
  show 0 < (wfirst a b).length
  unfold wfirst; split <;> simp
theorem wres_new (bits most a b : Int) (kb m : Nat) (tab : Int → Int) (n : Nat) : wres (wnew bits most a b kb m) tab n = wrun most (tabO bits tab) (tabF tab) n 0 (wfirst a b) := by
  exact if_neg (fun h : false = true => by cases h)
/-- What a Way says behind its run. -/
structure WayR (w : World) (lo xb : Nat) (x : WY) (bits : Int) (r : Nat × List Nd × List (Int × Int) × Bool) : Prop where
  at_ : WayAt w lo xb x
  bits_ : x.bits = bits
  l : x.l = r.2.1
  way : x.way = r.2.2.1
  over : x.over = r.2.2.2
  ok : WyOk x
/-- A run from the start on: it changes nothing that was. -/
theorem newrun {w0 w w1 : World} {B : WB} {V : WV} {s : CS} {xb kb mb : Nat} {bits most a b : Int} {tab : Int → Int} (m : Nat) (hm : m ≤ 1000) (c : Nat) (hc : s.n ≤ c ∧ s.cnt ≤ c) (hcl : c + 1000 < lim) (h : WS w0 w B V s) (hbl : Below w.heap.size w w1) (hx : WayAt w1 w.heap.size xb (wnew bits most a b kb mb)) (hmb : w.heap.size ≤ mb) (hkb : w.heap.size ≤ kb) (hb : 1 ≤ bits ∧ bits ≤ 12) (ha : 0 ≤ a ∧ a < tsize bits) (hb2 : 0 ≤ b ∧ b < tsize bits) (ht : TabOf bits tab s) :
    Calls Tryz.prog 36 #[.pointer (some ⟨B.wb, 0, none⟩), .iface 139 (.pointer (some ⟨xb, 0, none⟩)), .int .i64 m] w1 fun e w' => e = .returned (.int .i64 ((wrun most (tabO bits tab) (tabF tab) m 0 (wfirst a b)).1 : Nat)) ∧ ∃ (x' : WY) (s' : CS), WS w0 w' B V s' ∧ WayR w' w0.heap.size xb x' bits (wrun most (tabO bits tab) (tabF tab) m 0 (wfirst a b)) ∧ x'.mo = some mb ∧ Besd w' B V mb ∧ s'.val = s.val ∧ s'.cnt = s.cnt + (wrun most (tabO bits tab) (tabF tab) m 0 (wfirst a b)).1 ∧ s'.n = s.n + (wrun most (tabO bits tab) (tabF tab) m 0 (wfirst a b)).1 ∧ Fr wTy true w w' ∧ Fy xb kb w1 w' := by
  have hx2 : WayAt w1 w0.heap.size xb (wnew bits most a b kb mb) := hx.lower h.below.size
  have hlow := hx.low
  refine (wayrun (tab := tab) m hm c hc hcl (h.keep hbl) hx2 rfl (way_fresh h hbl hmb) (wnew_ok2 hb ha hb2) ht).mono ?_
  rw [wres_new]
  intro e w' hh
  obtain ⟨h1, x', s', g1, g2, g3, g4, g5, g6, g7, g8, g9, g10, g11, g12, g13⟩ := hh
  refine ⟨h1, x', s', g1, ⟨g2, g6, g7, g8, g9, g4⟩, g5, g3, g10, g11, g12, ?_, g13⟩
  refine ⟨Nat.le_trans hbl.size g13.size, fun k cs T fr hk hT => ?_, fun c => by cases c⟩
  have hlt := (Array.getElem?_eq_some_iff.1 hk).1
  refine g13.cells k cs T fr ((hbl.block k hlt).trans hk) hT (by omega) ?_
  show k ≠ kb
  omega
/-- A Way is left by what changes nothing that was. -/
theorem WayR.frm {w w' : World} {lo xb : Nat} {x : WY} {bits : Int} {r : Nat × List Nd × List (Int × Int) × Bool} (h : WayR w lo xb x bits r) (hf : Fr wTy true w w') (hm : ∀ m, x.mo = some m → w'.heap[m]? = w.heap[m]?) : WayR w' lo xb x bits r :=
  ⟨h.at_.frm hf w_not_y hm, h.bits_, h.l, h.way, h.over, h.ok⟩
theorem WayR.below {w w' : World} {lo xb : Nat} {x : WY} {bits : Int} {r : Nat × List Nd × List (Int × Int) × Bool} (h : WayR w lo xb x bits r) (hb : Below w.heap.size w w') : WayR w' lo xb x bits r :=
  ⟨h.at_.below hb, h.bits_, h.l, h.way, h.over, h.ok⟩
theorem WayAt.kb_lt {w : World} {lo xb : Nat} {x : WY} (h : WayAt w lo xb x) : x.kb < w.heap.size := by
  have hl := h.lt
  obtain ⟨h0, ⟨vb, vw, h1, h2, h3, h4⟩, -⟩ := h
  rcases h4 with h4 | ⟨-, h4⟩
  · obtain ⟨cur, hc⟩ := own_blk h2 h4
    exact (Array.getElem?_eq_some_iff.1 hc).1
  · rw [h4]; exact hl
/-- A Way behind its run, its map marked. -/
def WayH (w : World) (lo xb : Nat) (V : WV) (bits : Int) (r : Nat × List Nd × List (Int × Int) × Bool) : Prop :=
  ∃ x m es cl, WayR w lo xb x bits r ∧ x.mo = some m ∧ w.heap[m]? = some (.map es cl) ∧ (m, es, cl) ∈ V.fm
section
variable {w0 w w' : World} {B : WB} {V V' : WV} {s s' : CS} {lo xb : Nat} {bits : Int} {r : Nat × List Nd × List (Int × Int) × Bool}
theorem WayH.step (h : WayH w lo xb V bits r) (hw : WS w0 w' B V s') (hf : Fr wTy true w w') : WayH w' lo xb V bits r := by
  obtain ⟨x, m, es, cl, h1, h2, h3, h4⟩ := h
  have e := (hw.fmk _ h4).1
  refine ⟨x, m, es, cl, h1.frm hf (fun m' hm' => ?_), h2, e, h4⟩
  rw [h2] at hm'; cases hm'
  exact e.trans h3.symm
theorem WayH.below (h : WayH w lo xb V bits r) (hb : Below w.heap.size w w') : WayH w' lo xb V bits r := by
  obtain ⟨x, m, es, cl, h1, h2, h3, h4⟩ := h
  exact ⟨x, m, es, cl, h1.below hb, h2, (hb.block _ (Array.getElem?_eq_some_iff.1 h3).1).trans h3, h4⟩
theorem WayH.mono (h : WayH w lo xb V bits r) (hs : ∀ q ∈ V.fm, q ∈ V'.fm) : WayH w lo xb V' bits r := by
  obtain ⟨x, m, es, cl, h1, h2, h3, h4⟩ := h
  exact ⟨x, m, es, cl, h1, h2, h3, hs _ h4⟩
theorem WayH.got (h : WayH w lo xb V bits r) (hl : r.2.2.1.length ≤ 10000) : Calls Tryz.prog 61 #[.pointer (some ⟨xb, 0, none⟩)] w fun e w' => ∃ v, e = .returned v ∧ SpN w' w.heap.size v bits r.2.2.1 ∧ Below w.heap.size w w' := by
  obtain ⟨x, m, es, cl, h1, h2, h3, h4⟩ := h
  have := wgot h1.at_ (by rw [h1.way]; omega)
  rw [h1.bits_, h1.way] at this
  exact this
theorem WayH.isover (h : WayH w lo xb V bits r) : Calls Tryz.prog 252 #[.pointer (some ⟨xb, 0, none⟩)] w fun e w' => e = .returned (.bool r.2.2.2) ∧ w' = w := by
  obtain ⟨x, m, es, cl, h1, h2, h3, h4⟩ := h
  have := wover h1.at_
  rw [h1.ok.made, h1.over, show (!true || r.2.2.2) = r.2.2.2 from by cases r.2.2.2 <;> rfl] at this
  exact this
end
abbrev WV.plus (V : WV) (p : Nat × Array MapEntry × Nat) : WV := { V with fm := p :: V.fm }
theorem newrunH {w0 w w1 : World} {B : WB} {V : WV} {s : CS} {xb kb mb : Nat} {bits most a b : Int} {tab : Int → Int} (m : Nat) (hm : m ≤ 1000) (c : Nat) (hc : s.n ≤ c ∧ s.cnt ≤ c) (hcl : c + 1000 < lim) (h : WS w0 w B V s) (hbl : Below w.heap.size w w1) (hx : WayAt w1 w.heap.size xb (wnew bits most a b kb mb)) (hmb : w.heap.size ≤ mb) (hkb : w.heap.size ≤ kb) (hb : 1 ≤ bits ∧ bits ≤ 12) (ha : 0 ≤ a ∧ a < tsize bits) (hb2 : 0 ≤ b ∧ b < tsize bits) (ht : TabOf bits tab s) (r : Nat × List Nd × List (Int × Int) × Bool) (hr : r = wrun most (tabO bits tab) (tabF tab) m 0 (wfirst a b)) :
    Calls Tryz.prog 36 #[.pointer (some ⟨B.wb, 0, none⟩), .iface 139 (.pointer (some ⟨xb, 0, none⟩)), .int .i64 m] w1 fun e w' => e = .returned (.int .i64 (r.1 : Nat)) ∧ ∃ p s', WS w0 w' B (V.plus p) s' ∧ WayH w' w0.heap.size xb (V.plus p) bits r ∧ s'.val = s.val ∧ s'.cnt = s.cnt + r.1 ∧ s'.n = s.n + r.1 ∧ Fr wTy true w w' ∧ Fy xb kb w1 w' := by
  subst hr
  refine (newrun (tab := tab) m hm c hc hcl h hbl hx hmb hkb hb ha hb2 ht).mono fun e w' hh => ?_
  obtain ⟨h1, x', s', g1, g2, g3, g4, g5, g6, g7, g8, g9⟩ := hh
  obtain ⟨es, cl, hmb2⟩ := (g2.at_.mp mb g3).2.blk
  exact ⟨h1, (mb, es, cl), s', g1.more hmb2 g4.ne, ⟨x', mb, es, cl, g2, g3, hmb2, by simp⟩, g5, g6, g7, g8, g9⟩
end Go.Proofs.YtdbgfidnccpmdaaGreat

/-
  Hops from a way's spots.
-/
namespace Go.Proofs.YtdbgfidnccpmdaaGreat
open Go.RowKit Go.Maps TagPure
set_option linter.unusedVariables false

/-- Spots, somewhere. -/
def SpRow (w : World) (v : Value) (n : Nat) (xs : List Value) : Prop :=
  xs.length = n * 3 ∧ ((v = .slice none 0 0 ∧ n = 0) ∨ ∃ g cap cur, v = .slice (some ⟨g, 0, none⟩) n cap ∧ w.heap[g]? = some (.cells cur 43 (0, 0)) ∧ cur.toList.take (n * 3) = xs)
theorem sprow_sl {w : World} {v : Value} {n : Nat} {xs : List Value} (h : SpRow w v n xs) : ∃ a c, v = .slice a n c := by
  obtain ⟨-, ⟨rfl, rfl⟩ | ⟨g, cap, cur, rfl, -⟩⟩ := h
  · exact ⟨_, _, rfl⟩
  · exact ⟨_, _, rfl⟩
def way3 (bits : Int) (l : List (Int × Int)) : List (Int × Int × Int) := l.map fun p => (bits, p.1, p.2)
theorem flat3_way (bits : Int) (l : List (Int × Int)) : flat3 (way3 bits l) = flatS bits l := by
  induction l with
  | nil => rfl
  | cons p r ih => show enc3 (bits, p.1, p.2) ++ flat3 (way3 bits r) = _; rw [ih]; rfl
theorem spn_row {w : World} {base : Nat} {v : Value} {bits : Int} {l : List (Int × Int)} (h : SpN w base v bits l) : SpRow w v (way3 bits l).length (flat3 (way3 bits l)) := by
  refine ⟨flat3_len _, ?_⟩
  rw [flat3_way, show (way3 bits l).length = l.length from List.length_map _]
  rcases h with ⟨rfl, rfl⟩ | ⟨g, cur, rfl, h1, h2, h3, h4⟩
  · exact .inl ⟨rfl, rfl⟩
  · exact .inr ⟨g, _, cur, rfl, h2, h4⟩
set_option maxRecDepth 10000 in
/-- A copy of spots. -/
theorem sclone4 {w : World} {n : Nat} {v : Value} {xs : List Value} (h : SpRow w v n xs) (hl : n ≤ 100000) (h1 : ∀ u ∈ xs, u.oneCell' = true) : Calls Tryz.prog 142 #[v] w fun e w' => ∃ v', e = .returned v' ∧ w'.ownsRow w.heap.size 43 3 v' n xs ∧ Below w.heap.size w w' := by
  obtain ⟨i0, hi0, hz0, hz1, hz2⟩ := info_parts info_spot3
  have HI := Lib.hid hi0; have HZ0 := Lib.hid hz0; have HZ1 := Lib.hid hz1; have HZ2 := Lib.hid hz2; have H1 := Lib.hid h1
  clear hi0 hz0 hz1 hz2 h1
  obtain ⟨hx, ⟨rfl, h0⟩ | ⟨g, cap, cur, rfl, hg, ht⟩⟩ := h
  · subst h0
    have : xs = [] := List.length_eq_zero_iff.1 (by omega)
    subst this
    clear hx hl
    have q22 : ∀ (w : World) (a : Option Addr) (n c n' c' : Nat), (binOp .eql 145 (.slice a n c) (.slice none n' c')).run Tryz.prog w = .ok (.bool a.isNone) w := fun w a n c n' c' => Go.Lib.run_eql_slice_nil w _ _ a n c n' c' Tryz.underlying145
    go_enter Tryz.func142, Tryz.ntmps142
    go_wp2
    go_ret
    exact ⟨_, rfl, World.ownsRow_nil _ _ _ _, Below.refl _ _⟩
  · have hcs : ∀ j u, xs[j]? = some u → w.cell? ⟨g, j, none⟩ = some u := fun j u hj => by
      have hj2 : j < xs.length := (List.getElem?_eq_some_iff.1 hj).1
      rw [hx] at hj2
      rw [← ht, List.getElem?_take, if_pos hj2] at hj
      rw [hcell hg, ← hj]; simp
    have hglt := (Array.getElem?_eq_some_iff.1 hg).1
    have HC := Lib.hid hcs; have HL := Lib.hid hl; have HG := Lib.hid hglt; have HX := Lib.hid hx
    clear hx hg ht hcs hl hglt
    have q22 : ∀ (w : World) (a : Option Addr) (n c n' c' : Nat), (binOp .eql 145 (.slice a n c) (.slice none n' c')).run Tryz.prog w = .ok (.bool a.isNone) w := fun w a n c n' c' => Go.Lib.run_eql_slice_nil w _ _ a n c n' c' Tryz.underlying145
    go_enter Tryz.func142, Tryz.ntmps142
    go_wp2_with (at_builtin; refine wpList_append_own _ rfl _ _ 145 rfl w.heap.size 43 i0 (.agg #[.int .i64 0, .int .i64 0, .int .i64 0]) 3 24 Tryz.underlying145 HI.out HZ0.out HZ1.out HZ2.out rfl (by decide) _ _ _ rfl (World.ownsRow_made w #[] 0 (Nat.le_refl _) (Nat.zero_le _) (by simp)) ⟨g, 0, none⟩ n cap xs rfl ?c1 ?c2 ?c3 ?c4 ?c5 ?c6 ?_)
    case c1 => exact HX.out
    case c2 =>
      intro j u hj
      have ea : (⟨g, 0, none⟩ : Addr).add j = ⟨g, 0 + j, none⟩ := by simp [Addr.add]; omega
      rw [ea]
      rw [World.cell?_alloc_past _ _ _ (show g < _ from HG.out), Nat.zero_add]
      exact HC.out j u hj
    case c3 => exact H1.out
    case c4 => have := HL.out; unfold maxLen; omega
    case c5 => have := HL.out; omega
    case c6 => simp
    intro v' w2 hown hgr _
    have hb1 := below_alloc w (.cells #[] 43)
    have hB : Below w.heap.size w w2 := ((Below.refl w.heap.size w).trans hb1).grown hgr (by simp) (fun k hk => by simp [Value.ownBlock] at hk; omega)
    have HO := Lib.hid hown; have HB := Lib.hid hB
    clear hown hgr hb1 hB
    go_wp2
    go_ret
    have := HO.out
    first
      | exact ⟨_, rfl, this, HB.out⟩
      | (simp only [Nat.zero_add, List.nil_append] at this; exact ⟨_, rfl, this, HB.out⟩)
theorem newhops4 {w : World} {v : Value} {l : List (Int × Int × Int)} (h : SpRow w v l.length (flat3 l)) (hl : l.length ≤ 100000) : Calls Tryz.prog 67 #[v] w fun e w' => ∃ hb, e = .returned (.pointer (some ⟨hb, 0, none⟩)) ∧ HopsAt w' w.heap.size hb (hpnew l) [] ∧ Below w.heap.size w w' := by
  have hc := sclone4 h hl (flat3_one l)
  obtain ⟨a, c, rfl⟩ := sprow_sl h
  have hmx : max ((l.length : Int) - 1) 0 = ((l.length - 1 : Nat) : Int) := by omega
  have hmy : (if (l.length : Int) - 1 < 0 then (0 : Int) else (l.length : Int) - 1) = ((l.length - 1 : Nat) : Int) := by split <;> omega
  have hw : wrap64 ((l.length : Int) - 1) = (l.length : Int) - 1 := IntWalk.wrap64_in _ (by omega)
  have HL := Lib.hid hl; have HMX := Lib.hid hmx; have HMY := Lib.hid hmy
  clear h hl hmx hmy
  go_enter Tryz.func67, Tryz.ntmps67
  go_wp2_with (go_at_call 142; refine hc.mono ?_; intro e w2 hh; obtain ⟨v2, hh1, o2, b2⟩ := hh; subst hh1; obtain ⟨a2, c2, hv2⟩ := own_sl2 o2; subst hv2; have O2 := Lib.hid o2; have B2 := Lib.hid b2; clear o2 b2 hc)
  simp only [HMX.out]
  go_ret
  have b3 := below_alloc w2 (.cells ((hpnew l).cells (.slice a2 l.length c2) (.slice none 0 0)) 280)
  have z3 := heap_alloc_new w2 (.cells ((hpnew l).cells (.slice a2 l.length c2) (.slice none 0 0)) 280)
  refine ⟨w2.heap.size, rfl, ⟨B2.out.size, rfl, HL.out, ?_, ⟨_, _, z3, own_fr O2.out (below_fr b3 (fun _ => false) false) rfl, none, 0, rfl, Nat.le_refl _, Nat.zero_le _, .inl rfl⟩, (fun q hq => by cases hq), List.nodup_nil⟩, B2.out.trans (b3.mono B2.out.size)⟩
  show l.length - 1 < l.length ∨ l.length - 1 = 0
  omega
end Go.Proofs.YtdbgfidnccpmdaaGreat

/-
  The way that paths find for a Full's key.
-/
namespace Go.Proofs.YtdbgfidnccpmdaaGreat
open Go.RowKit Go.Maps TagPure
set_option linter.unusedVariables false

def tabV (v : Int → Int) (b : Int) : Int → Int := fun u => v (tagsA b u)
/-- The way from two buckets. -/
def fway (v : Int → Int) (b most u1 u2 : Int) (n : Nat) : Nat × List Nd × List (Int × Int) × Bool := wrun most (tabO b (tabV v b)) (tabF (tabV v b)) n 0 (wfirst u1 u2)
theorem fway_tab {b : Int} (hb : 1 ≤ b ∧ b ≤ 3) : 2 ≤ (tsize b).toNat ∧ (tsize b).toNat ≤ 8 ∧ (((tsize b).toNat : Nat) : Int) = tsize b := by
  have h1 := tsize_pos (b := b) ⟨hb.1, by omega⟩
  have h2 := (SIn.size (b := b) (u := 0) (k := 0) ⟨hb.1, hb.2, by omega, by omega, by omega, by omega⟩).2
  omega
theorem fway_steps {v : Int → Int} {b most u1 u2 : Int} (hb : 1 ≤ b ∧ b ≤ 3) (h1 : 0 ≤ u1 ∧ u1 < tsize b) (h2 : 0 ≤ u2 ∧ u2 < tsize b) {n : Nat} (hn : 8 ≤ n) : (fway v b most u1 u2 n).2.2.2 = true ∧ (fway v b most u1 u2 n).1 ≤ 8 := by
  obtain ⟨t1, t2, t3⟩ := fway_tab hb
  obtain ⟨s1, s2, s3⟩ := wrun_steps (tabF (tabV v b)) (tab_ok b ⟨hb.1, by omega⟩ (tabV v b)) most n 0 (wfirst u1 u2) (wfirst_sh (N := (tsize b).toNat) (tabO b (tabV v b)) (tabF (tabV v b)) (by omega) (by omega)).win (Nat.zero_le _) (by omega)
  have := s3.len
  exact ⟨s1, by unfold fway; omega⟩
theorem fway_leads {v : Int → Int} {b most u1 u2 : Int} (hb : 1 ≤ b ∧ b ≤ 3) (h1 : 0 ≤ u1 ∧ u1 < tsize b) (h2 : 0 ≤ u2 ∧ u2 < tsize b) {n : Nat} (hn : 8 ≤ n) : Leads (tabO b (tabV v b)) (tabF (tabV v b)) u1 u2 (fway v b most u1 u2 n).2.2.1 := by
  obtain ⟨t1, t2, t3⟩ := fway_tab hb
  have ht := tab_ok b ⟨hb.1, by omega⟩ (tabV v b)
  have hsh := (wshort (fr := tabF (tabV v b)) ht (by omega) (cap := ((tsize b).toNat : Int)) (Int.le_refl _) (a := u1) (b := u2) (by omega) (by omega) n (by omega)).2
  rcases wany (fr := tabF (tabV v b)) ht (by omega) most (a := u1) (b := u2) (by omega) (by omega) n (by omega) with e | e
  · unfold fway
    rw [e]
    exact ⟨fun x hx => (by simp at hx), fun t x y hx => (by simp at hx), fun x hx => (by simp at hx), by simp⟩
  · unfold fway
    rw [e]
    exact ends_leads hsh
theorem tagOf_nat (x : Int) (n : Nat) (h : n < 4) : tagOf x (n : Int) = tg x n := by unfold tagOf; rw [if_pos (by omega)]; simp
/-- A way that was found is one for hops. -/
theorem leads_hway {b : Int} {its : List Itm} {v : Int → Int} {u1 u2 : Int} {Wy : List (Int × Int)} (hT : Tbl b its v) (hbd : Word v) (hev : ∀ a, 64 ≤ a → a < 128 → v a % 2 = 0) (h1 : 0 ≤ u1 ∧ u1 < tsize b) (h2 : 0 ≤ u2 ∧ u2 < tsize b) (hL : Leads (tabO b (tabV v b)) (tabF (tabV v b)) u1 u2 Wy) (hne : Wy ≠ []) :
    HWay b its (cntI v b) Wy (Wy.length - 1) v := by
  have hb12 : 1 ≤ b ∧ b ≤ 12 := ⟨hT.b1, by have := hT.b3; omega⟩
  have hlen : 0 < Wy.length := List.length_pos_iff.2 hne
  have tab := tab_ok b hb12 (tabV v b)
  obtain ⟨t1, t2, t3⟩ := fway_tab ⟨hT.b1, hT.b3⟩
  have rng : ∀ (i : Nat) (x : Int × Int), Wy[i]? = some x → 0 ≤ x.1 ∧ x.1 < tsize b := by
    intro i
    induction i with
    | zero =>
      intro x hx
      rcases hL.first x hx with e | e <;> rw [e] <;> assumption
    | succ i ih =>
      intro y hy
      have hi : i < Wy.length := by have := (List.getElem?_eq_some_iff.1 hy).1; omega
      obtain ⟨-, s, hs, -, ho⟩ := hL.next i _ y (List.getElem?_eq_getElem hi) hy
      have h0 := ih _ (List.getElem?_eq_getElem hi)
      have := tab.o_in (Wy[i]).1 s h0.1 (by omega) hs
      rw [ho] at this
      omega
  have slot : ∀ (i : Nat) (x : Int × Int), Wy[i]? = some x → 0 ≤ x.2 ∧ x.2 < 4 := by
    intro i x hx
    have hi := (List.getElem?_eq_some_iff.1 hx).1
    by_cases hl : i + 1 < Wy.length
    · obtain ⟨-, s, hs, e, -⟩ := hL.next i x _ hx (List.getElem?_eq_getElem hl)
      rw [e]; omega
    · obtain ⟨e1, e2⟩ := hL.last x (by rw [show Wy.length - 1 = i by omega]; exact hx)
      rcases free_casesW (tabV v b x.1) with e | ⟨n, hn, e, -⟩
      · unfold tabF frW at e2; omega
      · rw [e1]; unfold tabF frW; rw [e]; omega
  have sin : ∀ (i : Nat) (x : Int × Int), Wy[i]? = some x → SIn b x.1 x.2 := fun i x hx => ⟨hT.b1, hT.b3, (rng i x hx).1, (rng i x hx).2, (slot i x hx).1, (slot i x hx).2⟩
  refine ⟨hT, fun r _ => rfl, hbd, hev, fun x hx => ?_, hL.unlike, by omega, fun x hx => ?_, fun i x y hi hx hy => ?_⟩
  · obtain ⟨i, hi⟩ := List.mem_iff_getElem?.1 hx
    exact sin i x hi
  · obtain ⟨e1, e2⟩ := hL.last x hx
    have hs := sin _ x hx
    rcases free_casesW (tabV v b x.1) with e | ⟨n, hn, e, ht⟩
    · unfold tabF frW at e2; omega
    · have hx2 : x.2 = (n : Int) := by rw [e1]; unfold tabF frW; exact e
      have h0 : (slA v b x.1 x.2).1 = 0 := by
        unfold slA
        rw [hx2, tagOf_nat _ n hn]; exact ht
      rcases hT.slot x.1 x.2 hs with h | ⟨m, z, -, h, -⟩
      · exact h
      · rw [h] at h0
        have := tag01_bd (hashOf z.key) (hfold_bd _ _).1 (hfold_bd _ _).2
        simp only at h0; omega
  · obtain ⟨hf, s, hs, e, ho⟩ := hL.next i x y hx hy
    have hfr : frW (tabV v b x.1) = -1 := by
      have := frW_nn (tabV v b x.1)
      unfold tabF at hf
      omega
    have hfu := full_tags (tabV v b x.1) (hbd _).1 hfr s hs
    have et : (slA v b x.1 x.2).1 = tg (tabV v b x.1) s := by
      unfold slA
      rw [e, tagOf_nat _ s hs]; rfl
    rw [et]
    exact ⟨hfu.1, ho⟩
theorem way_le8 {v : Int → Int} {b most u1 u2 : Int} (hb : 1 ≤ b ∧ b ≤ 3) (h1 : 0 ≤ u1 ∧ u1 < tsize b) (h2 : 0 ≤ u2 ∧ u2 < tsize b) {n : Nat} (hn : 8 ≤ n) : (fway v b most u1 u2 n).2.2.1.length ≤ 10000 := by
  obtain ⟨t1, t2, t3⟩ := fway_tab hb
  have hw : ∀ (c : Int) (o : Int → Nat → Int) (fr : Int → Int) n k l, (wrun c o fr n k l).2.2.1.length ≤ (wrun c o fr n k l).2.1.length := by
    intro c o fr n
    induction n with
    | zero => intro k l; simp [wrun]
    | succ n ih =>
      intro k l
      unfold wrun
      split
      · simp
      · split
        · simp only [wway, List.length_reverse]; exact wpath_len l _ _ _
        · exact ih _ _
  obtain ⟨s1, s2, s3⟩ := wrun_steps (tabF (tabV v b)) (tab_ok b ⟨hb.1, by omega⟩ (tabV v b)) most n 0 (wfirst u1 u2) (wfirst_sh (N := (tsize b).toNat) (tabO b (tabV v b)) (tabF (tabV v b)) (by omega) (by omega)).win (Nat.zero_le _) (by omega)
  have := s3.len
  have := hw most (tabO b (tabV v b)) (tabF (tabV v b)) n 0 (wfirst u1 u2)
  unfold fway
  omega
def u1of (f : Ful) (b : Int) : Int := bk (hashOf f.key) b
def u2of (f : Ful) (b : Int) : Int := oth (bk (hashOf f.key) b) (tag01 (hashOf f.key)) b
theorem uof_in (f : Ful) {b : Int} (hb : 1 ≤ b ∧ b ≤ 3) : (0 ≤ u1of f b ∧ u1of f b < tsize b) ∧ 0 ≤ u2of f b ∧ u2of f b < tsize b := by
  obtain ⟨h0, h1⟩ := hfold_bd f.key f.key.size
  have htb := tag01_bd (hashOf f.key) h0 h1
  have hkb := bk_bd (hashOf f.key) b ⟨hb.1, by omega⟩
  exact ⟨hkb, oth_bd0 _ _ b ⟨hb.1, by omega⟩ hkb (by omega)⟩
def FWayPost (f : Ful) (w0 w : World) (B : WB) (V : WV) (s : CS) (b : Int) (e : Ending) (w' : World) : Prop :=
  ∃ v p s', e = .returned v ∧ WS w0 w' B (V.plus p) s' ∧ s'.val = s.val ∧ s'.n ≤ s.n + 8 ∧ s'.cnt ≤ s.cnt + 8 ∧ SpN w' w.heap.size v b (fway s.val b (2 + f.most) (u1of f b) (u2of f b) 600).2.2.1 ∧ Fr wTy true w w'
set_option maxRecDepth 10000 in
set_option maxHeartbeats 4000000 in
theorem fway_any (f : Ful) {w0 w : World} {B : WB} {V : WV} {s : CS} {b : Int} (h : WS w0 w B V s) (hr : FulRd w f) (hb : 1 ≤ b ∧ b ≤ 3) (hw : s.val 2 = tword b 0) (c : Nat) (hc : s.n ≤ c ∧ s.cnt ≤ c) (hcl : c + 1000 < lim) :
    Calls Tryz.prog 66 #[.agg f.cells, .pointer (some ⟨B.wb, 0, none⟩)] w (FWayPost f w0 w B V s b) := by
  have hB := below_alloc w (.cells f.cells 130)
  have z := heap_alloc_new w (.cells f.cells 130)
  have hb12 : 1 ≤ b ∧ b ≤ 12 := ⟨hb.1, by omega⟩
  obtain ⟨q1, q2, q3⟩ := as_one (b := b) ⟨hb.1, by omega⟩
  have has := fun W => as_any (tword b 0) (tword_wf4 ⟨hb.1, by omega⟩) W
  rw [q1, q2] at has
  obtain ⟨h0, h1⟩ := hfold_bd f.key f.key.size
  have hha := Lib.hid (fun W => hash_big f.key hr.key W)
  have hbk := Lib.hid (fun W => bucket_fn (hashOf f.key) b h0 h1 hb12 W)
  have htg := Lib.hid (fun W => tag_fn (hashOf f.key) h0 h1 W)
  have htb := tag01_bd (hashOf f.key) h0 h1
  have hkb := bk_bd (hashOf f.key) b hb12
  have hot := Lib.hid (fun W => other_fn (bk (hashOf f.key) b) (tag01 (hashOf f.key)) b hb12 hkb htb W)
  obtain ⟨hu1, hu2⟩ := uof_in f hb
  have hst := fway_steps (v := s.val) (b := b) (most := 2 + f.most) hb hu1 hu2 (n := 600) (by omega)
  have hmo := hr.most
  have hnw := Lib.hid (fun W => newway_ok b (u1of f b) (u2of f b) (2 + f.most) hu1 hu2 W)
  unfold u1of u2of at hnw
  have hpk := (h.keep hB).peek 2 (by decide)
  rw [hw] at hpk
  have c0 := (h.keep hB).c0
  have g1 : 0 ≤ f.most ∧ f.most < 1000000 := by omega
  have g2 : 0 ≤ 2 + f.most ∧ 2 + f.most < 1000000 := by omega
  have em : wrap64 f.most = f.most := w64s rfl g1
  have em2 : wrap64 (2 + f.most) = 2 + f.most := w64s rfl g2
  have em3 : IntKind.i64.wrap f.most = f.most := (IntWalk.i64_left _).trans em
  have em4 : IntKind.i64.wrap (2 + f.most) = 2 + f.most := (IntWalk.i64_left _).trans em2
  obtain ⟨R, hR⟩ : ∃ R, R = fway s.val b (2 + f.most) (u1of f b) (u2of f b) 600 := ⟨_, rfl⟩
  unfold FWayPost
  rw [← hR] at hst ⊢
  have H := Lib.hid h; have HB := Lib.hid hB; have HZ := Lib.hid z; have HBI := Lib.hid hb; have HC := Lib.hid hc; have HCL := Lib.hid hcl; have HR := Lib.hid hR; have HST := Lib.hid hst; have HU := Lib.hid (And.intro hu1 hu2)
  clear h hB z hb hw hc hcl hR hst hu1 hu2 hb12 q1 q2 q3 h0 h1 htb hkb hr hmo g1 g2
  go_enter Tryz.func66, Tryz.ntmps66
  go_upto_region 1 with (fail)
  change Code.wp _ _ _ _ (w.alloc (.cells f.cells 130))
  obtain ⟨w1, hw1⟩ : ∃ w1, w1 = w.alloc (.cells f.cells 130) := ⟨_, rfl⟩
  rw [← hw1] at HB HZ hpk c0 ⊢
  clear hw1
  obtain ⟨-, -, -, e3, e4, -⟩ := ful_cells HZ.out
  go_upto_region 3 with (first
    | (go_at_call 33; refine hpk.mono ?_; intro e w' hh; obtain ⟨hh1, hh2⟩ := hh; subst hh1; obtain rfl := hh2.symm; clear hpk)
    | (go_at_call 53; refine (has _).mono ?_; intro e w' hh; obtain ⟨hh1, hh2⟩ := hh; subst hh1; obtain rfl := hh2.symm; clear has)
    | (go_at_call 32; refine (hha.out _).mono ?_; intro e w2 hh; obtain ⟨hh1, b2⟩ := hh; subst hh1; have B2 := Lib.hid (HB.out.trans (b2.mono HB.out.size)); have e4' := (b2.cell (p := ⟨w.heap.size, 4, none⟩) (World.block_lt_of_cell? _ _ e4)).trans e4; clear b2 e3 e4))
  go_upto_region 4 with (go_at_call 54; refine (hbk.out _).mono ?_; intro e w' hh; obtain ⟨hh1, hh2⟩ := hh; subst hh1; obtain rfl := hh2.symm)
  have x4 : ∀ st : ExtW w2, st.val.cell? ⟨w.heap.size, 4, none⟩ = some (.int .u8 f.most) := fun st => st.cell e4'
  have t4 : w2.drew.cell? ⟨w.heap.size, 4, none⟩ = some (.int .u8 f.most) := e4'
  clear e4' x4
  go_region_held2 (fun W => W.cell? ⟨w.heap.size, 4, none⟩ = some (.int .u8 f.most)) (assumption) (first
    | (go_at_call 56; refine (htg.out _).mono ?_; intro e w' hh; obtain ⟨hh1, hh2⟩ := hh; subst hh1; obtain rfl := hh2.symm)
    | (go_at_call 55; (with_reducible refine (hot.out _).mono ?_); intro e w' hh; obtain ⟨hh1, hh2⟩ := hh; subst hh1; obtain rfl := hh2.symm)
    | (go_at_call 57; (with_reducible refine (hnw.out _).mono ?_); intro e w5 hh; obtain ⟨xb, kb, mb, hh1, hx, bx, hmb, hkb⟩ := hh; subst hh1; have HX := Lib.hid hx; have BX := Lib.hid ((Below.refl w2.heap.size w2).drew.trans bx); have HMK := Lib.hid (And.intro hmb hkb); have t5 : w5.cell? ⟨w.heap.size, 4, none⟩ = some (.int .u8 f.most) := (BX.out.cell (p := ⟨w.heap.size, 4, none⟩) (World.block_lt_of_cell? _ _ t4)).trans t4; clear hx bx hmb hkb t4))
  have h5 := H.out.keep (B2.out.trans (BX.out.mono B2.out.size))
  have ht : TabOf b (tabV s.val b) s := fun _ _ _ => rfl
  have h2 := H.out.keep B2.out
  have hrun := newrunH (tab := tabV s.val b) 600 (by decide) c HC.out HCL.out h2 BX.out HX.out HMK.out.1 HMK.out.2 ⟨HBI.out.1, by have := HBI.out.2; omega⟩ HU.out.1 HU.out.2 ht R HR.out
  clear t5 h5 h2 ht em em2 em3 em4
  go_upto_region 6 with (go_at_call 36; refine hrun.mono ?_; intro e w6 hh; obtain ⟨hh1, p, s2, h6, hwh, v6, c6, n6, f6, -⟩ := hh; subst hh1; have P6 := Lib.hid (And.intro h6 (And.intro v6 (And.intro c6 (And.intro n6 f6)))); have hgot := hwh.got (by have h1 := HR.out; have h2 := way_le8 (v := s.val) (most := 2 + f.most) HBI.out HU.out.1 HU.out.2 (n := 600) (by omega); rw [h1]; omega); clear h6 hwh v6 c6 n6 f6 hrun)
  go_wp2_with (go_at_call 61; (with_reducible refine hgot.mono ?_); intro e w7 hh; obtain ⟨v, hh1, hsp, b7⟩ := hh; subst hh1; have HSP := Lib.hid hsp; have B7 := Lib.hid b7; clear hsp b7 hgot)
  go_ret
  obtain ⟨h6, v6, c6, n6, f6⟩ := P6.out
  have hs8 := HST.out.2
  refine ⟨v, p, s2, rfl, h6.keep B7.out, v6, by omega, by omega, ?_, ((below_fr B2.out _ _).trans f6).trans (below_fr B7.out _ _)⟩
  exact HSP.out.mono (Nat.le_trans B2.out.size f6.size)
end Go.Proofs.YtdbgfidnccpmdaaGreat

/-
  Hops: layer 17's example.
-/
namespace Go.Proofs.YtdbgfidnccpmdaaGreat
open Go.RowKit Go.Maps TagPure
set_option linter.unusedVariables false

def s17 : CS := CS.init [(2, tword 2 0)]
def p17 : CS := pst s17 (tagsA 2 1) (itemA 2 1 3) 3 9 5 3
def x17 : HP := hpnew [(2, 1, 3), (2, 0, 0)]
def f17 : CS := (hpits (p17, x17) 12).1
theorem sof213 : sof 2 1 3 = ⟨tagsA 2 1, itemA 2 1 3, 3, 0, 0⟩ := by kernel_rfl
theorem ex17a : hpchk (p17, x17) 12 = true := by kernel_rfl
theorem ex17b : (hpits (p17, x17) 12).2.left = 0 := by kernel_rfl
theorem ex17c : tagOf (f17.val (tagsA 2 1)) 3 = 0 := by kernel_rfl
theorem ex17d : f17.val (itemA 2 1 3) = 0 := by kernel_rfl
theorem ex17e : tagOf (f17.val (tagsA 2 0)) 0 = 9 := by kernel_rfl
theorem ex17f : f17.val (itemA 2 0 0) = 5 := by kernel_rfl
theorem s17_n : s17.n ≤ 10 ∧ s17.cnt ≤ 10 := by
  have a : s17.n = 1 := by kernel_rfl
  have b : s17.cnt = 0 := by kernel_rfl
  omega
theorem p17_n : p17.n ≤ 20 ∧ p17.cnt ≤ 20 := by
  have a : p17.n = 4 := by kernel_rfl
  have b : p17.cnt = 3 := by kernel_rfl
  omega
theorem spot17 (u k : Int) (h : u = 1 ∧ k = 3 ∨ u = 0 ∧ k = 0) (w : World) : Calls Tryz.prog 120 #[.int .i64 2, .int .i64 u, .int .i64 k] w fun e w' => e = .returned (.agg #[.int .i64 2, .int .i64 u, .int .i64 k]) ∧ Below w.heap.size w w' := by
  have hsz := fun w => size_any 2 w
  have e0 : tsize 2 = 4 := by decide
  simp only [e0] at hsz
  rcases h with ⟨rfl, rfl⟩ | ⟨rfl, rfl⟩
  all_goals
    go_enter Tryz.func120, Tryz.ntmps120
    go_wp2_with (go_at_call 121; refine (hsz _).mono ?_; rintro e w1 ⟨rfl, hw⟩; obtain rfl := hw.symm)
    refine bodyPost_ret (v := .agg #[.int .i64 2, .int .i64 _, .int .i64 _]) (by simp [results, Tryz.results120, go_sem]) rfl ⟨rfl, ?_⟩
    exact below_alloc' _ _
/-- Spots, just laid. -/
theorem own_spots {w : World} {base : Nat} (l : List (Int × Int × Int)) (hb : base ≤ w.heap.size) (hl : l.length ≤ 100000) : (w.alloc (.cells (flat3 l).toArray 43)).ownsRow base 43 3 (.slice (some ⟨w.heap.size, 0, none⟩) l.length l.length) l.length (flat3 l) :=
  ⟨flat3_len l, .inr ⟨w.heap.size, l.length, _, rfl, hb, heap_alloc_new w _, Nat.le_refl _, by unfold maxLen; omega, by simp [flat3_len], by rw [show (flat3 l).toArray.toList = flat3 l from by simp, List.take_of_length_le (by rw [flat3_len]; exact Nat.le_refl _)]⟩⟩
set_option maxRecDepth 10000 in
set_option maxHeartbeats 4000000 in
theorem lives17 (w : World) : Calls Tryz.prog 65 #[] w fun e w' => e = .returned (.bool true) ∧ Below w.heap.size w w' := by
  have hS1 := Lib.hid (fun W => spot17 1 3 (.inl ⟨rfl, rfl⟩) W)
  have hS2 := Lib.hid (fun W => spot17 0 0 (.inr ⟨rfl, rfl⟩) W)
  have hNP := Lib.hid (fun W => newput_in 2 1 3 9 5 (by decide) (by decide) (by decide) W)
  go_enter Tryz.func65, Tryz.ntmps65
  go_upto_region 4 with (go_at_call 87; refine (world12v 2 (by decide) w).mono ?_; intro e w1 hh; obtain ⟨B, hh1, h1⟩ := hh; subst hh1; have H1 : Hid (WS w w1 B (v0 ⟨2, 8, 3, 1, 16⟩) s17) := h1; clear h1)
  go_upto_region 5 with (go_at_call 120; refine (hS1.out _).mono ?_; intro e w2 hh; obtain ⟨hh1, b2⟩ := hh; subst hh1; have H2 := Lib.hid (H1.out.keep b2); clear b2 H1)
  have b3 := below_alloc w2 (.cells #[.int .i64 2, .int .i64 1, .int .i64 3] 43)
  have Z3 := Lib.hid (heap_alloc_new w2 (.cells #[.int .i64 2, .int .i64 1, .int .i64 3] 43))
  have H3 := Lib.hid (H2.out.keep b3)
  clear b3 H2
  change Code.wp _ _ _ _ (w2.alloc (.cells #[.int .i64 2, .int .i64 1, .int .i64 3] 43))
  generalize w2.alloc (.cells #[.int .i64 2, .int .i64 1, .int .i64 3] 43) = w3 at *
  generalize w2.heap.size = pa at *
  go_upto_region 6 with (go_at_call 120; refine (hS2.out _).mono ?_; intro e w4 hh; obtain ⟨hh1, b4⟩ := hh; subst hh1; have H4 := Lib.hid (H3.out.keep b4); have Z4 := Lib.hid ((b4.block _ (Array.getElem?_eq_some_iff.1 Z3.out).1).trans Z3.out); clear b4 H3 Z3)
  have b5 := below_alloc w4 (.cells #[.int .i64 2, .int .i64 0, .int .i64 0] 43)
  have Y5 := Lib.hid (heap_alloc_new w4 (.cells #[.int .i64 2, .int .i64 0, .int .i64 0] 43))
  have Z5 := Lib.hid ((b5.block _ (Array.getElem?_eq_some_iff.1 Z4.out).1).trans Z4.out)
  have H5 := Lib.hid (H4.out.keep b5)
  clear b5 H4 Z4
  change Code.wp _ _ _ _ (w4.alloc (.cells #[.int .i64 2, .int .i64 0, .int .i64 0] 43))
  generalize w4.alloc (.cells #[.int .i64 2, .int .i64 0, .int .i64 0] 43) = w5 at *
  generalize w4.heap.size = pb at *
  have a0 := hcell Z5.out 0; have a1 := hcell Z5.out 1; have a2 := hcell Z5.out 2
  have np := hNP.out w5
  rw [sof213] at np
  go_upto_region 7 with (first
    | (go_at_call 103; refine np.mono ?_; intro e w6 hh; obtain ⟨ub, hh1, d6, l6, b6⟩ := hh; subst hh1; have H6 := Lib.hid (H5.out.keep b6); have Z6 := Lib.hid ((b6.block _ (Array.getElem?_eq_some_iff.1 Z5.out).1).trans Z5.out); have Y6 := Lib.hid ((b6.block _ (Array.getElem?_eq_some_iff.1 Y5.out).1).trans Y5.out); have D6 := Lib.hid (And.intro (show pa ≠ ub from Nat.ne_of_lt (Nat.lt_of_lt_of_le (Array.getElem?_eq_some_iff.1 Z5.out).1 l6)) (show pb ≠ ub from Nat.ne_of_lt (Nat.lt_of_lt_of_le (Array.getElem?_eq_some_iff.1 Y5.out).1 l6))); have hr6 := run_put (m := 10) s17_n (by unfold lim; decide) (Nat.le_trans H5.out.slow l6) (by decide) (tagsA_wf _ _) (itemA_wf _ _ _) (by decide) H6.out d6; clear d6 l6 b6 H5 Z5 Y5 a0 a1 a2 np)
    | (go_at_call 36; refine hr6.mono ?_; intro e w7 hh; obtain ⟨hh1, h7, -, f7⟩ := hh; subst hh1; have H7 : Hid (WS w w7 B (v0 ⟨2, 8, 3, 1, 16⟩) p17) := h7; have Z7 := Lib.hid (f7.cells _ _ _ _ Z6.out rfl D6.out.1); have Y7 := Lib.hid (f7.cells _ _ _ _ Y6.out rfl D6.out.2); clear h7 f7 hr6 H6 Z6 Y6 D6))
  have a0 := hcell Z7.out 0; have a1 := hcell Z7.out 1; have a2 := hcell Z7.out 2
  have e0 := hcell Y7.out 0; have e1 := hcell Y7.out 1; have e2 := hcell Y7.out 2
  have nh := newhops (own_spots (w := w7) (base := w7.heap.size) [(2, 1, 3), (2, 0, 0)] (Nat.le_refl _) (by decide)) (by decide)
  have e8 : (flat3 [(2, 1, 3), (2, 0, 0)]).toArray = #[.int .i64 2, .int .i64 1, .int .i64 3, .int .i64 2, .int .i64 0, .int .i64 0] := rfl
  rw [e8] at nh
  have b8 := below_alloc w7 (.cells #[.int .i64 2, .int .i64 1, .int .i64 3, .int .i64 2, .int .i64 0, .int .i64 0] 43)
  clear e8
  have H8 := Lib.hid (H7.out.keep b8)
  have Z8 := Lib.hid ((b8.block _ (Array.getElem?_eq_some_iff.1 Z7.out).1).trans Z7.out)
  have Y8 := Lib.hid ((b8.block _ (Array.getElem?_eq_some_iff.1 Y7.out).1).trans Y7.out)
  clear b8 H7 Z7 Y7
  go_upto_region 8 with (first
    | (go_at_call 67; refine nh.mono ?_; intro e w9 hh; obtain ⟨hb, hh1, d9, b9⟩ := hh; subst hh1; have H9 := Lib.hid (H8.out.keep b9); have Z9 := Lib.hid ((b9.block _ (Array.getElem?_eq_some_iff.1 Z8.out).1).trans Z8.out); have Y9 := Lib.hid ((b9.block _ (Array.getElem?_eq_some_iff.1 Y8.out).1).trans Y8.out); have D9 := Lib.hid (And.intro (show pa ≠ hb from Nat.ne_of_lt (Nat.lt_of_lt_of_le (Array.getElem?_eq_some_iff.1 Z8.out).1 d9.low)) (show pb ≠ hb from Nat.ne_of_lt (Nat.lt_of_lt_of_le (Array.getElem?_eq_some_iff.1 Y8.out).1 d9.low))); have hm9 : HMB w w9 w9 B (v0 ⟨2, 8, 3, 1, 16⟩) p17 [hb] hb x17 [] := ⟨H9.out, d9.lower H8.out.slow, FS.refl _ _, .inl (List.mem_singleton.2 rfl), fun q hq => by cases hq⟩; have hr9 := hprun 12 40 20 (by decide) (by decide) p17_n (by unfold lim; decide) hm9 ex17a (by intro p hp; simp only [x17, hpnew, List.mem_cons, List.not_mem_nil, or_false] at hp; rcases hp with rfl | rfl <;> decide) ex17b; clear d9 b9 hm9 H8 Z8 Y8 a0 a1 a2 e0 e1 e2 nh)
    | (go_at_call 36; refine hr9.mono ?_; intro e w10 hh; obtain ⟨qs10, hh1, h10⟩ := hh; subst hh1; have H10 : Hid (WS w w10 B (v0 ⟨2, 8, 3, 1, 16⟩) f17) := h10.ws; have Z10 := Lib.hid (h10.fs.cells _ _ _ _ Z9.out rfl (by simpa using D9.out.1)); have Y10 := Lib.hid (h10.fs.cells _ _ _ _ Y9.out rfl (by simpa using D9.out.2)); clear h10 hr9 H9 Z9 Y9 D9))
  have a0 := hcell Z10.out 0; have a1 := hcell Z10.out 1; have a2 := hcell Z10.out 2
  have sl1 := slot_any H10.out 2 1 3 (by decide)
  rw [ex17c, ex17d] at sl1
  go_upto_region 9 with (go_at_call 62; refine sl1.mono ?_; intro e w11 hh; obtain ⟨hh1, b11⟩ := hh; subst hh1; have H11 := Lib.hid (H10.out.keep b11); have Y11 := Lib.hid ((b11.block _ (Array.getElem?_eq_some_iff.1 Y10.out).1).trans Y10.out); clear b11 H10 Z10 Y10 sl1 a0 a1 a2)
  have e0 := hcell Y11.out 0; have e1 := hcell Y11.out 1; have e2 := hcell Y11.out 2
  have sl2 := slot_any H11.out 2 0 0 (by decide)
  rw [ex17e, ex17f] at sl2
  go_wp2_with (go_at_call 62; refine sl2.mono ?_; intro e w12 hh; obtain ⟨hh1, b12⟩ := hh; subst hh1; have H12 := Lib.hid (H11.out.keep b12); clear b12 H11 Y11 sl2 e0 e1 e2)
  go_ret
  exact ⟨rfl, H12.out.below⟩
end Go.Proofs.YtdbgfidnccpmdaaGreat
