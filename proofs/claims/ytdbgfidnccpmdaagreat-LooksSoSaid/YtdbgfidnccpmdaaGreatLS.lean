/-
  Texts of this prover, merged: Since, LookSoLaw, SoDo, SoRel, LooksSo.
-/
import Derived.Test.YtdbgfidnccpmdaaGreatLB
import Derived.Test.YtdbgfidnccpmdaaGreatLA
import Derived.Test.YtdbgfidnccpmdaaGreatLC
/-
  What happens beside a reader: versions rise, a place's slots turn only while its version is odd, the tables' word never comes again.
-/
namespace Go.Proofs.YtdbgfidnccpmdaaGreat
open Go.RowKit Go.Maps TagPure
set_option linter.unusedVariables false

theorem updo {f : Int → Int} {g y x : Int} (h : x ≠ g) : upd f g y x = f x := by unfold upd; rw [if_neg h]
/-- How far tables have gone. -/
def wrank (t : Int) : Int := 2 * asOld t + (if 0 < asNow t then 1 else 0)
theorem tsize_nz {b : Int} : tsize b = 0 ↔ ¬ (1 ≤ b ∧ b ≤ 12) := by
  constructor
  · intro h c
    have := tsize_pos (b := b) c
    omega
  · intro h; exact tsize_out (by omega)
theorem asOld_bd (t : Int) : 1 ≤ asOld t ∧ asOld t ≤ 12 := by
  unfold asOld
  split
  · omega
  · rename_i h
    have := (not_congr (tsize_nz (b := t % 256))).1 h
    omega
theorem asNow_or (t : Int) : asNow t = 0 ∨ (asNow t = asOld t + 1 ∧ asNow t ≤ 12) := by
  unfold asNow
  split
  · exact .inl rfl
  · rename_i h
    have h1 : t / 256 % 256 = asOld t + 1 := Classical.byContradiction fun c => h (.inl c)
    have h2 := (not_congr (tsize_nz (b := t / 256 % 256))).1 (fun c => h (.inr c))
    exact .inr ⟨h1, by omega⟩
theorem tword_lo (o n : Int) (ho : 0 ≤ o ∧ o < 256) (hn : 0 ≤ n ∧ n < 256) : tword o n % 256 = o ∧ tword o n / 256 % 256 = n := by
  unfold tword; omega
theorem asOld_tw {o n : Int} (ho : 1 ≤ o ∧ o ≤ 12) (hn : 0 ≤ n ∧ n < 256) : asOld (tword o n) = o := by
  have h := tword_lo o n (by omega) hn
  unfold asOld
  rw [h.1, if_neg (fun c => (tsize_nz.1 c) ho)]
theorem next_rank (t : Int) (h : asOld t < 12) : wrank t < wrank (nextW t) := by
  have ho := asOld_bd t
  unfold nextW
  rcases asNow_or t with hn | ⟨hn, hn12⟩
  · rw [if_neg (by omega)]
    have h1 := asOld_tw (o := asOld t) (n := asOld t + 1) ho (by omega)
    have h2 : asNow (tword (asOld t) (asOld t + 1)) = asOld t + 1 := by
      have h := tword_lo (asOld t) (asOld t + 1) (by omega) (by omega)
      unfold asNow
      rw [h1, h.2, if_neg]
      rintro (c | c)
      · exact c rfl
      · exact (tsize_nz.1 c) (by omega)
    unfold wrank
    rw [h1, h2, if_neg (by omega), if_pos (by omega)]; omega
  · rw [if_pos (by omega)]
    have h1 := asOld_tw (o := asNow t) (n := 0) (by omega) (by omega)
    unfold wrank
    rw [h1]
    split <;> split <;> omega
/-- Since a moment. -/
structure Since (v v' : Int → Int) : Prop where
  up : ∀ a, 64 ≤ a → a < 128 → v a ≤ v' a
  slot : ∀ p, POk12L p → v' (ver p.1 p.2) = v (ver p.1 p.2) → v (ver p.1 p.2) % 2 = 0 → v' (tagsA p.1 p.2) = v (tagsA p.1 p.2) ∧ ∀ k, 0 ≤ k → k < 4 → v' (itemA p.1 p.2 k) = v (itemA p.1 p.2 k)
  tab : v' 2 = v 2 ∨ wrank (v 2) < wrank (v' 2)
theorem ver_in {p : Int × Int} (h : POk12L p) : 64 ≤ ver p.1 p.2 ∧ ver p.1 p.2 < 128 := by
  have hp : hasP p.1 p.2 = true := by unfold hasP; simp [h.2.1, h.2.2]
  unfold ver; rw [if_pos hp]; unfold stripe; omega
theorem Since.refl (v : Int → Int) : Since v v := ⟨fun _ _ _ => Int.le_refl _, fun _ _ _ _ => ⟨rfl, fun _ _ _ => rfl⟩, .inl rfl⟩
theorem Since.trans {a b c : Int → Int} (h : Since a b) (k : Since b c) : Since a c := by
  refine ⟨fun x h1 h2 => Int.le_trans (h.up x h1 h2) (k.up x h1 h2), fun p hp he h0 => ?_, ?_⟩
  · have hv := ver_in hp
    have h1 := h.up _ hv.1 hv.2
    have h2 := k.up _ hv.1 hv.2
    have e1 : b (ver p.1 p.2) = a (ver p.1 p.2) := by omega
    obtain ⟨g1, g2⟩ := h.slot p hp e1 h0
    obtain ⟨g3, g4⟩ := k.slot p hp (by omega) (by omega)
    exact ⟨g3.trans g1, fun j h1 h2 => (g4 j h1 h2).trans (g2 j h1 h2)⟩
  · rcases h.tab with h1 | h1 <;> rcases k.tab with h2 | h2
    · exact .inl (h2.trans h1)
    · exact .inr (by rw [← h1]; exact h2)
    · exact .inr (by rw [h2]; exact h1)
    · exact .inr (by omega)
/-! ## Where words of places lie. -/
theorem tags_v {p : Int × Int} (h : POk12L p) : tagsA p.1 p.2 = 4096 + 8 * (tsize p.1 + p.2) := by
  have hp : hasP p.1 p.2 = true := by unfold hasP; simp [h.2.1, h.2.2]
  unfold tagsA; rw [if_pos hp]
theorem item_v {p : Int × Int} (h : POk12L p) {k : Int} (h0 : 0 ≤ k) (h1 : k < 4) : itemA p.1 p.2 k = 4096 + 8 * (tsize p.1 + p.2) + 1 + k := by
  have hp : hasP p.1 p.2 = true := by unfold hasP; simp [h.2.1, h.2.2]
  unfold itemA; rw [if_pos (by unfold hasS; simp [hp, h0, h1])]
theorem place_inj {p q : Int × Int} (hp : POk12L p) (hq : POk12L q) (h : tsize p.1 + p.2 = tsize q.1 + q.2) : p = q := by
  obtain ⟨⟨b1, b2⟩, u0, u1⟩ := hp
  obtain ⟨⟨c1, c2⟩, w0, w1⟩ := hq
  have e1 := tsize_in ⟨b1, b2⟩
  have e2 := tsize_in ⟨c1, c2⟩
  have hb : p.1 = q.1 := by
    rcases twelve ⟨b1, b2⟩ with h1 | h1 | h1 | h1 | h1 | h1 | h1 | h1 | h1 | h1 | h1 | h1 <;> rcases twelve ⟨c1, c2⟩ with h2 | h2 | h2 | h2 | h2 | h2 | h2 | h2 | h2 | h2 | h2 | h2 <;> first
      | exact h1.trans h2.symm
      | (exfalso
         rw [h1] at e1 u1 h
         rw [h2] at e2 w1 h
         rw [e1] at u1 h
         rw [e2] at w1 h
         simp only [Int.reduceToNat, Int.reducePow] at u1 w1 h
         omega)
  have hu : p.2 = q.2 := by rw [hb] at h; omega
  exact Prod.ext hb hu
/-- A word of a place's slots is written while the place's version is odd. -/
theorem since_slot {v : Int → Int} {q : Int × Int} (hq : POk12L q) (ho : v (ver q.1 q.2) % 2 = 1) {g : Int} (hg : g = tagsA q.1 q.2 ∨ ∃ k, 0 ≤ k ∧ k < 4 ∧ g = itemA q.1 q.2 k) (y : Int) : Since v (upd v g y) := by
  have hgb : 128 ≤ g := by
    have := tsize_bd q.1; have := hq.2.1
    rcases hg with rfl | ⟨k, h0, h1, rfl⟩
    · rw [tags_v hq]; omega
    · rw [item_v hq h0 h1]; omega
  refine ⟨fun a h1 h2 => by rw [updo (by omega)]; exact Int.le_refl _, fun p hp _ he => ?_, .inl (updo (by omega))⟩
  have hne : tsize p.1 + p.2 ≠ tsize q.1 + q.2 := fun c => by
    rw [place_inj hp hq c, ho] at he; cases he
  have hp0 := hp.2.1; have hq0 := hq.2.1
  refine ⟨updo ?_, fun j j0 j1 => updo ?_⟩
  · rw [tags_v hp]
    rcases hg with rfl | ⟨k, h0, h1, rfl⟩
    · rw [tags_v hq]; omega
    · rw [item_v hq h0 h1]; omega
  · rw [item_v hp j0 j1]
    rcases hg with rfl | ⟨k, h0, h1, rfl⟩
    · rw [tags_v hq]; omega
    · rw [item_v hq h0 h1]; omega
/-- A version rises. -/
theorem since_ver {v : Int → Int} {a : Int} (ha : 64 ≤ a ∧ a < 128) {y : Int} (hy : v a ≤ y) : Since v (upd v a y) := by
  refine ⟨fun x h1 h2 => ?_, fun p hp _ he => ?_, .inl (updo (by omega))⟩
  · unfold upd; split
    · rename_i e; rw [e]; exact hy
    · exact Int.le_refl _
  · have := tsize_bd p.1; have hp0 := hp.2.1
    refine ⟨updo ?_, fun j j0 j1 => updo ?_⟩
    · rw [tags_v hp]; omega
    · rw [item_v hp j0 j1]; omega
/-- The tables go on. -/
theorem since_tab {v : Int → Int} {y : Int} (h : wrank (v 2) < wrank y) : Since v (upd v 2 y) := by
  refine ⟨fun x h1 h2 => by rw [updo (by omega)]; exact Int.le_refl _, fun p hp _ he => ?_, .inr (by rw [upd_same]; exact h)⟩
  have := tsize_bd p.1; have hp0 := hp.2.1
  refine ⟨updo ?_, fun j j0 j1 => updo ?_⟩
  · rw [tags_v hp]; omega
  · rw [item_v hp j0 j1]; omega
/-- Another word is written. -/
theorem since_far {v : Int → Int} {a : Int} (ha : 2 < a ∧ a < 64) (y : Int) : Since v (upd v a y) := by
  refine ⟨fun x h1 h2 => by rw [updo (by omega)]; exact Int.le_refl _, fun p hp _ he => ?_, .inl (updo (by omega))⟩
  have := tsize_bd p.1; have hp0 := hp.2.1
  refine ⟨updo ?_, fun j j0 j1 => updo ?_⟩
  · rw [tags_v hp]; omega
  · rw [item_v hp j0 j1]; omega
/-! ## The writer. -/
def SLk (a0 : Int) (σ : SL) : Prop := ∃ (q : Int × Int) (k : Int), POk12L q ∧ ver q.1 q.2 = a0 ∧ 0 ≤ k ∧ k < 4 ∧ σ.tg = tagsA q.1 q.2 ∧ σ.it = itemA q.1 q.2 k
def DLk (a0 : Int) : Dg → Prop
  | .mark xs => ∀ a ∈ xs, a = a0
  | .out σ => SLk a0 σ
  | .put σ _ _ => SLk a0 σ
def RLk (row : List Dg) : Prop := ∃ a0, ∀ d ∈ row, DLk a0 d
theorem DLk.step {a0 : Int} {d : Dg} (h : DLk a0 d) (s : CS) : DLk a0 (d.step s).2 := by
  cases d with
  | mark xs => cases xs with
    | nil => exact h
    | cons a r => exact fun x hx => h x (List.mem_cons_of_mem _ hx)
  | out σ => unfold Dg.step; dsimp only; split; exact h; split <;> exact h
  | put σ g r => unfold Dg.step; dsimp only; split; exact h; split <;> exact h
theorem dgo_since {d : Dg} (hd : DGo d) (s : CS) {a0 : Int} (hl : DLk a0 d) (ho : s.val a0 % 2 = 1) : Since s.val (d.step s).1.val := by
  have id_ : ∀ a, Since s.val (s.acc 1 a (s.val a)).val := fun a => by
    have e : (s.acc 1 a (s.val a)).val = s.val := by
      funext z; show upd s.val a (s.val a) z = _; unfold upd; split
      · rename_i h; rw [h]
      · rfl
    rw [e]; exact Since.refl _
  cases d with
  | mark xs => cases hd
  | out σ =>
    obtain ⟨q, k, hq, hv, k0, k1, e1, e2⟩ := hl
    rw [← hv] at ho
    unfold Dg.step; dsimp only
    split
    · exact id_ _
    · split
      · exact since_slot hq ho (.inl e1) _
      · exact since_slot hq ho (.inr ⟨k, k0, k1, e2⟩) _
  | put σ g r =>
    obtain ⟨q, k, hq, hv, k0, k1, e1, e2⟩ := hl
    rw [← hv] at ho
    unfold Dg.step; dsimp only
    split
    · exact since_slot hq ho (.inr ⟨k, k0, k1, e2⟩) _
    · split
      · exact id_ _
      · exact since_slot hq ho (.inl e1) _
/-- Versions are not too high. -/
def VBd (s : CS) : Prop := ∀ a, 64 ≤ a → a < 128 → 0 ≤ s.val a ∧ s.val a ≤ s.cnt
theorem wu_one {x : Int} (h : 0 ≤ x ∧ x < 1000000) : wu (x + 1) = x + 1 := by rw [wu_eq]; omega
structure WSin (s : CS) (r : Bool × CS × List Chg × List Dg) : Prop where
  sin : Since s.val r.2.1.val
  lk : RLk r.2.2.2
  bd : VBd r.2.1
theorem VBd.upd_far {s s' : CS} (h : VBd s) {g y : Int} (hg : 128 ≤ g ∨ g < 64) (hv : s'.val = upd s.val g y) (hc : s.cnt ≤ s'.cnt) : VBd s' := fun a h1 h2 => by
  rw [hv, updo (by omega)]
  have := h a h1 h2
  omega
theorem dgo_bd {d : Dg} (hd : DGo d) (s : CS) (h : VBd s) : VBd (d.step s).1 := by
  cases d with
  | mark xs => cases hd
  | out σ =>
    obtain ⟨h1, h2, h3⟩ := hd
    unfold Dg.step; dsimp only
    split
    · exact h.upd_far (.inl h1) rfl (Nat.le_succ _)
    · split
      · exact h.upd_far (.inl h1) rfl (Nat.le_succ _)
      · exact h.upd_far (.inl h2) rfl (Nat.le_succ _)
  | put σ g r =>
    obtain ⟨h1, h2, h3⟩ := hd
    unfold Dg.step; dsimp only
    split
    · exact h.upd_far (.inl h2) rfl (Nat.le_succ _)
    · split
      · exact h.upd_far (.inl h1) rfl (Nat.le_succ _)
      · exact h.upd_far (.inl h1) rfl (Nat.le_succ _)
theorem mark_bd {s : CS} (h : VBd s) {a0 : Int} (h0 : 64 ≤ a0 ∧ a0 < 128) (hc : s.cnt < 900000) : VBd (s.acc 4 a0 (wu (s.val a0 + 1))) ∧ Since s.val (s.acc 4 a0 (wu (s.val a0 + 1))).val := by
  have hb := h a0 h0.1 h0.2
  rw [wu_one (by omega)]
  refine ⟨fun a h1 h2 => ?_, since_ver h0 (by omega)⟩
  show 0 ≤ upd s.val a0 (s.val a0 + 1) a ∧ upd s.val a0 (s.val a0 + 1) a ≤ ((s.cnt + 1 : Nat) : Int)
  unfold upd
  have := h a h1 h2
  split <;> omega
theorem wdo_since {s : CS} {d : Dg} {r : List Dg} (h : WPh s.val (d :: r)) (hl : RLk (d :: r)) (hb : VBd s) (hc : s.cnt < 900000) (left : List Chg) : WSin s (wdo s left d r) := by
  obtain ⟨a1, hl⟩ := hl
  have hlk : RLk (if (d.step s).2.over then r else (d.step s).2 :: r) := by
    refine ⟨a1, fun e he => ?_⟩
    split at he
    · exact hl e (List.mem_cons_of_mem _ he)
    · rcases List.mem_cons.1 he with rfl | he
      · exact (hl d (List.mem_cons_self)).step s
      · exact hl e (List.mem_cons_of_mem _ he)
  cases h with
  | a a0 d' h h0 hd =>
    obtain ⟨g1, g2⟩ := mark_bd hb h0 hc
    exact ⟨g2, hlk, g1⟩
  | b a0 d' h h0 hd =>
    have e : a0 = a1 := hl (.mark [a0]) (by simp) a0 (by simp)
    have ho : s.val a0 % 2 = 1 := by have := h a0 h0.1 h0.2; rw [if_pos rfl] at this; exact this
    exact ⟨dgo_since hd s (hl d (List.mem_cons_self)) (by rw [← e]; exact ho), hlk, dgo_bd hd s hb⟩
  | c a0 h h0 =>
    obtain ⟨g1, g2⟩ := mark_bd hb h0 hc
    exact ⟨g2, hlk, g1⟩
theorem chrow_lk {its : List Itm} {v : Int → Int} (c : Chg) (hne : its ≠ []) : RLk (chRow its v c) := by
  have hpos : 0 < its.length := List.length_pos_iff.2 hne
  have hi0 := Int.emod_nonneg c.item (b := (its.length : Int)) (by omega)
  obtain ⟨ref, href⟩ : ∃ ref, ref = 1 + c.item % its.length := ⟨_, rfl⟩
  obtain ⟨k0, k1⟩ := hfold_bd (atOf its ref).1.key (atOf its ref).1.key.size
  obtain ⟨L, hL⟩ : ∃ L, L = plist (hashOf (atOf its ref).1.key) (v 2) := ⟨_, rfl⟩
  have hlp : 0 < L.length := by rw [hL]; exact plist_posL _ _
  have hm0 := Int.emod_nonneg c.place (b := (L.length : Int)) (by omega)
  have hm1 := Int.emod_lt_of_pos c.place (show (0 : Int) < L.length by omega)
  obtain ⟨p, hp⟩ : ∃ p, p = L.getD (c.place % L.length).toNat (0, 0) := ⟨_, rfl⟩
  have hpm : p ∈ L := by
    rw [hp, List.getD_eq_getElem?_getD, List.getElem?_eq_getElem (by omega)]
    exact List.getElem_mem _
  have hpk : POk12L p := plist_okL (hashOf (atOf its ref).1.key) (v 2) k0 k1 p (by rw [← hL]; exact hpm)
  have hv := ver_in hpk
  have hvof : vof [p] = [ver p.1 p.2] := by
    show vstep [] p = _
    unfold vstep
    rw [if_neg (by omega)]; rfl
  have hs0 := Int.emod_nonneg c.slot (b := 4) (by omega)
  have hs1 := Int.emod_lt_of_pos c.slot (show (0 : Int) < 4 by omega)
  have hsz := tsize_bd p.1
  have hp0 := hpk.2.1
  have htg := tags_v hpk
  have hit := item_v hpk hs0 hs1
  have hsof : sof p.1 p.2 (c.slot % 4) = ⟨tagsA p.1 p.2, itemA p.1 p.2 (c.slot % 4), c.slot % 4, 0, 0⟩ := by
    unfold sof
    rw [if_neg (by omega)]
  have hsl : SLk (ver p.1 p.2) (sof p.1 p.2 (c.slot % 4)) := by rw [hsof]; exact ⟨p, c.slot % 4, hpk, rfl, hs0, hs1, rfl, rfl⟩
  have htb := tag01_bd (hashOf (atOf its ref).1.key) k0 k1
  have hsp : hsput (p.1, p.2, c.slot % 4) (tag01 (hashOf (atOf its ref).1.key)) ref = .put (sof p.1 p.2 (c.slot % 4)) (tag01 (hashOf (atOf its ref).1.key)) ref := by
    unfold hsput
    rw [if_neg (by omega)]
  obtain ⟨d, hd⟩ : ∃ d, d = (if 3 < c.kind % 8 then Dg.out (sof p.1 p.2 (c.slot % 4)) else hsput (p.1, p.2, c.slot % 4) (tag01 (hashOf (atOf its ref).1.key)) ref) := ⟨_, rfl⟩
  have hrow : chRow its v c = [.mark [ver p.1 p.2], d, .mark [ver p.1 p.2]] := by
    rw [← hvof, hd, hp, hL, href]; rfl
  have hdg : DLk (ver p.1 p.2) d := by
    rw [hd]; split
    · exact hsl
    · rw [hsp]; exact hsl
  have hmk : DLk (ver p.1 p.2) (.mark [ver p.1 p.2]) := fun a ha => List.mem_singleton.1 ha
  rw [hrow]
  refine ⟨ver p.1 p.2, fun e he => ?_⟩
  simp only [List.mem_cons, List.not_mem_nil, or_false] at he
  rcases he with rfl | rfl | rfl
  · exact hmk
  · exact hdg
  · exact hmk
theorem wgo_since (its : List Itm) (s : CS) (hb : VBd s) (hc : s.cnt < 900000) : ∀ (left : List Chg) (row : List Dg), WPh s.val row → RLk row → WSin s (wgo its s left row)
  | left, d :: r, h, hl => by
    rw [wgo_cons]; exact wdo_since h hl hb hc left
  | [], [], h, hl => by
    simp only [wgo]; exact ⟨Since.refl _, hl, hb⟩
  | c :: left, [], h, hl => by
    have he : EvenV s.val := by cases h with | z h => exact h
    have ih := wgo_since its s hb hc left [] h hl
    unfold wgo
    by_cases h7 : c.kind % 8 = 7
    · rw [if_pos h7]
      by_cases h12 : asOld (s.val 2) < 12
      · rw [if_pos h12]
        exact ⟨since_tab (next_rank _ h12), hl, hb.upd_far (.inr (by decide)) rfl (Nat.le_succ _)⟩
      · rw [if_neg h12]; exact ih
    · rw [if_neg h7]
      by_cases hi : its = []
      · rw [if_pos hi]; exact ih
      · rw [if_neg hi]
        have h1 := (chrow_law (its := its) (v := s.val) c hi he).1
        have h2 := chrow_lk (its := its) (v := s.val) c hi
        cases hr : chRow its s.val c with
        | nil => exact ⟨Since.refl _, ⟨0, fun d hd => by cases hd⟩, hb⟩
        | cons d r =>
          rw [hr] at h1 h2
          exact wdo_since h1 h2 hb hc left
end Go.Proofs.YtdbgfidnccpmdaaGreat

/-
  A Look beside others: what it finds was so at its point. The plain law.
-/
namespace Go.Proofs.YtdbgfidnccpmdaaGreat
open Go.RowKit Go.Maps TagPure
set_option linter.unusedVariables false

structure LBase (x : LK) : Prop where
  h : x.h = hashOf x.key
  all : x.all = plist x.h x.tab
  vs : x.vs.map (·.1) = vof x.all
def TabI (x : LK) (v : Int → Int) : Prop := v 2 = x.tab ∨ wrank x.tab < wrank (v 2)
/-- The first so many versions were seen: even, and not above those that are. -/
def SeenI (x : LK) (v : Int → Int) (j : Nat) : Prop := ∀ i, i < j → ∀ a n, x.vs[i]? = some (a, n) → n % 2 = 0 ∧ n ≤ v a
def GoodI (x : LK) (v : Int → Int) : Prop := ∀ (i : Nat) a n, x.vs[i]? = some (a, n) → v a = n
def Fnd (its : List Itm) (x : LK) (s3 : CS) : Option ((Int × Int) × Int) := scan its s3 x.key (x.all.map Ld.tag)
structure LSnd (x : LK) (v : Int → Int) (j : Nat) : Prop where
  b : LBase x
  ref : x.ref = 0
  tab : TabI x v
  seen : SeenI x v j
structure LPnt (x : LK) (s3 : CS) (v : Int → Int) : Prop where
  b : LBase x
  tab : TabI x s3.val
  seen : SeenI x s3.val x.vs.length
  sin : Since s3.val v
  ep : x.ep = s3.val 8
  pt : x.pt = (s3.cnt : Int)
structure LSix (its : List Itm) (x : LK) (s3 : CS) (v : Int → Int) : Prop where
  b : LBase x
  tab : s3.val 2 = x.tab
  seen : SeenI x s3.val x.vs.length
  ep : x.ep = s3.val 8
  pt : x.pt = (s3.cnt : Int)
  five : ∃ v5, Since s3.val v5 ∧ Since v5 v ∧ (GoodI x v5 → x.ref = foundR s3 0 (Fnd its x s3)) ∧ ∀ i, i < x.at_ → ∀ a n, x.vs[i]? = some (a, n) → v5 a = n
structure LOff (its : List Itm) (x : LK) (s3 : CS) : Prop where
  b : LBase x
  tab : s3.val 2 = x.tab
  ep : x.ep = s3.val 8
  pt : x.pt = (s3.cnt : Int)
  ref : x.ref = foundR s3 0 (Fnd its x s3)
  ev : ∀ (i : Nat) a n, x.vs[i]? = some (a, n) → s3.val a = n ∧ n % 2 = 0
structure LInv (its : List Itm) (x : LK) (s3 : CS) (v : Int → Int) : Prop where
  h : x.h = hashOf x.key
  bad : x.ph ≠ .off → x.bad = false
  snd : x.ph = .snd → LSnd x v x.at_
  thd : x.ph = .thd → LSnd x v x.vs.length
  pnt : x.ph = .tag ∨ x.ph = .itm ∨ x.ph = .fif → LPnt x s3 v
  rd : x.ph = .tag ∨ x.ph = .itm → x.ref = 0 ∧ (GoodI x v → Fnd its x s3 = scan its s3 x.key (lds x))
  fif : x.ph = .fif → GoodI x v → x.ref = foundR s3 0 (Fnd its x s3)
  six : x.ph = .six → LSix its x s3 v
  off : x.ph = .off → x.bad = true ∨ (x.bad = false ∧ LOff its x s3)
section
variable {its : List Itm} {x : LK} {s3 : CS} {v : Int → Int}
theorem LInv.mk_fst (hh : x.h = hashOf x.key) (hb : x.bad = false) (hp : x.ph = .fst) : LInv its x s3 v :=
  ⟨hh, fun _ => hb, fun c => (by rw [hp] at c; cases c), fun c => (by rw [hp] at c; cases c), fun c => (by rw [hp] at c; rcases c with c | c | c <;> cases c), fun c => (by rw [hp] at c; rcases c with c | c <;> cases c), fun c => (by rw [hp] at c; cases c), fun c => (by rw [hp] at c; cases c), fun c => (by rw [hp] at c; cases c)⟩
theorem LInv.mk_snd (hb : x.bad = false) (hp : x.ph = .snd) (g : LSnd x v x.at_) : LInv its x s3 v :=
  ⟨g.b.h, fun _ => hb, fun _ => g, fun c => (by rw [hp] at c; cases c), fun c => (by rw [hp] at c; rcases c with c | c | c <;> cases c), fun c => (by rw [hp] at c; rcases c with c | c <;> cases c), fun c => (by rw [hp] at c; cases c), fun c => (by rw [hp] at c; cases c), fun c => (by rw [hp] at c; cases c)⟩
theorem LInv.mk_thd (hb : x.bad = false) (hp : x.ph = .thd) (g : LSnd x v x.vs.length) : LInv its x s3 v :=
  ⟨g.b.h, fun _ => hb, fun c => (by rw [hp] at c; cases c), fun _ => g, fun c => (by rw [hp] at c; rcases c with c | c | c <;> cases c), fun c => (by rw [hp] at c; rcases c with c | c <;> cases c), fun c => (by rw [hp] at c; cases c), fun c => (by rw [hp] at c; cases c), fun c => (by rw [hp] at c; cases c)⟩
theorem LInv.mk_rd (hb : x.bad = false) (hp : x.ph = .tag ∨ x.ph = .itm) (g : LPnt x s3 v) (hr : x.ref = 0) (hf : GoodI x v → Fnd its x s3 = scan its s3 x.key (lds x)) : LInv its x s3 v :=
  ⟨g.b.h, fun _ => hb, fun c => (by rw [c] at hp; rcases hp with hp | hp <;> cases hp), fun c => (by rw [c] at hp; rcases hp with hp | hp <;> cases hp), fun _ => g, fun _ => ⟨hr, hf⟩, fun c => (by rw [c] at hp; rcases hp with hp | hp <;> cases hp), fun c => (by rw [c] at hp; rcases hp with hp | hp <;> cases hp), fun c => (by rw [c] at hp; rcases hp with hp | hp <;> cases hp)⟩
theorem LInv.mk_fif (hb : x.bad = false) (hp : x.ph = .fif) (g : LPnt x s3 v) (hf : GoodI x v → x.ref = foundR s3 0 (Fnd its x s3)) : LInv its x s3 v :=
  ⟨g.b.h, fun _ => hb, fun c => (by rw [hp] at c; cases c), fun c => (by rw [hp] at c; cases c), fun _ => g, fun c => (by rw [hp] at c; rcases c with c | c <;> cases c), fun _ => hf, fun c => (by rw [hp] at c; cases c), fun c => (by rw [hp] at c; cases c)⟩
theorem LInv.mk_six (hb : x.bad = false) (hp : x.ph = .six) (g : LSix its x s3 v) : LInv its x s3 v :=
  ⟨g.b.h, fun _ => hb, fun c => (by rw [hp] at c; cases c), fun c => (by rw [hp] at c; cases c), fun c => (by rw [hp] at c; rcases c with c | c | c <;> cases c), fun c => (by rw [hp] at c; rcases c with c | c <;> cases c), fun c => (by rw [hp] at c; cases c), fun _ => g, fun c => (by rw [hp] at c; cases c)⟩
theorem LInv.mk_off (hh : x.h = hashOf x.key) (hp : x.ph = .off) (g : x.bad = true ∨ (x.bad = false ∧ LOff its x s3)) : LInv its x s3 v :=
  ⟨hh, fun c => absurd hp c, fun c => (by rw [hp] at c; cases c), fun c => (by rw [hp] at c; cases c), fun c => (by rw [hp] at c; rcases c with c | c | c <;> cases c), fun c => (by rw [hp] at c; rcases c with c | c <;> cases c), fun c => (by rw [hp] at c; cases c), fun c => (by rw [hp] at c; cases c), fun _ => g⟩
theorem LBase.in64 (h : LBase x) {i : Nat} {a n : Int} (hi : x.vs[i]? = some (a, n)) : 64 ≤ a ∧ a < 128 := by
  have hm : a ∈ x.vs.map (·.1) := List.mem_map.2 ⟨(a, n), List.mem_of_getElem? hi, rfl⟩
  rw [h.vs] at hm
  exact vof_in64 a hm
theorem lt_of_at {i : Nat} {a n : Int} (hi : x.vs[i]? = some (a, n)) : i < x.vs.length := (List.getElem?_eq_some_iff.1 hi).1
theorem TabI.since {v' : Int → Int} (h : TabI x v) (k : Since v v') : TabI x v' := by
  unfold TabI at *
  rcases h with h | h <;> rcases k.tab with g | g
  · exact .inl (g.trans h)
  · exact .inr (by rw [← h]; exact g)
  · exact .inr (by rw [g]; exact h)
  · exact .inr (by omega)
theorem SeenI.since {v' : Int → Int} {j : Nat} (hb : LBase x) (h : SeenI x v j) (k : Since v v') : SeenI x v' j := fun i hi a n ha => by
  obtain ⟨h1, h2⟩ := h i hi a n ha
  have := hb.in64 ha
  have := k.up a this.1 this.2
  exact ⟨h1, by omega⟩
theorem GoodI.back {v' : Int → Int} (hb : LBase x) (hs : SeenI x v x.vs.length) (k : Since v v') (h : GoodI x v') : GoodI x v := fun i a n ha => by
  have h1 := (hs i (lt_of_at ha) a n ha).2
  have h2 := h i a n ha
  have := hb.in64 ha
  have := k.up a this.1 this.2
  omega
/-- Others' steps leave it. -/
theorem LInv.since {v' : Int → Int} (h : LInv its x s3 v) (k : Since v v') : LInv its x s3 v' := by
  refine ⟨h.h, h.bad, fun c => ?_, fun c => ?_, fun c => ?_, fun c => ?_, fun c hg => ?_, fun c => ?_, h.off⟩
  · obtain ⟨b, r, t, s⟩ := h.snd c
    exact ⟨b, r, t.since k, s.since b k⟩
  · obtain ⟨b, r, t, s⟩ := h.thd c
    exact ⟨b, r, t.since k, s.since b k⟩
  · obtain ⟨b, t, s, si, e, p⟩ := h.pnt c
    exact ⟨b, t, s, si.trans k, e, p⟩
  · have P := h.pnt (by rcases c with c | c; exact .inl c; exact .inr (.inl c))
    obtain ⟨r, f⟩ := h.rd c
    exact ⟨r, fun hg => f (GoodI.back P.b (P.seen.since P.b P.sin) k hg)⟩
  · have P := h.pnt (.inr (.inr c))
    exact h.fif c (GoodI.back P.b (P.seen.since P.b P.sin) k hg)
  · obtain ⟨b, t, s, e, p, v5, f1, f2, f3, f4⟩ := h.six c
    exact ⟨b, t, s, e, p, v5, f1, f2.trans k, f3, f4⟩
theorem LInv.again (hh : x.h = hashOf x.key) (hb : x.bad = false) : LInv its x.again s3 v := by
  unfold LK.again
  split
  · exact .mk_off hh rfl (.inl rfl)
  · exact .mk_fst hh hb rfl
theorem ver_mem {L : List (Int × Int)} (hL : ∀ p ∈ L, 64 ≤ ver p.1 p.2) {p : Int × Int} (hp : p ∈ L) : ver p.1 p.2 ∈ vof L := by
  have hv := hL p hp
  have key : ∀ (l : List (Int × Int)) (o : List Int), (ver p.1 p.2 ∈ o ∨ p ∈ l) → ver p.1 p.2 ∈ l.foldl vstep o := by
    intro l
    induction l with
    | nil => intro o h; rcases h with h | h; exact h; cases h
    | cons q l ih =>
      intro o h
      refine ih _ ?_
      rcases h with h | h
      · left
        unfold vstep
        split
        · exact h
        · split
          · exact h
          · exact List.mem_append_left _ h
      · rcases List.mem_cons.1 h with rfl | h
        · left
          unfold vstep
          rw [if_neg (by omega)]
          split
          · rename_i hc; simpa using hc
          · simp
        · exact .inr h
  exact key L [] (.inr hp)
/-- A place's words are those of the point, where all is good. -/
theorem good_place (P : LPnt x s3 v) (hg : GoodI x v) (h0 : 0 ≤ x.h ∧ x.h < 18446744073709551616) {p : Int × Int} (hp : p ∈ x.all) : v (tagsA p.1 p.2) = s3.val (tagsA p.1 p.2) ∧ ∀ k, 0 ≤ k → k < 4 → v (itemA p.1 p.2 k) = s3.val (itemA p.1 p.2 k) := by
  have hpk : POk12L p := plist_okL x.h x.tab h0.1 h0.2 p (by rw [← P.b.all]; exact hp)
  have hv := ver_in hpk
  have hmem : ver p.1 p.2 ∈ vof x.all := ver_mem (fun p hp => (ver_in (plist_okL x.h x.tab h0.1 h0.2 p (by rw [← P.b.all]; exact hp))).1) hp
  rw [← P.b.vs] at hmem
  obtain ⟨⟨a, n⟩, hm, ha⟩ := List.mem_map.1 hmem
  obtain ⟨i, hi⟩ := List.mem_iff_getElem?.1 hm
  have ha : a = ver p.1 p.2 := ha
  obtain ⟨g1, g2⟩ := P.seen i (lt_of_at hi) a n hi
  have g3 := hg i a n hi
  have g4 := P.sin.up a (by omega) (by omega)
  rw [ha] at g2 g3 g4
  exact P.sin.slot p hpk (by omega) (by omega)
theorem lnS_val (s : CS) (x : LK) : (lnS s x).val = s.val := by
  have h : ∀ a, (s.acc 1 a (s.val a)).val = s.val := fun a => (acc_id s 1 a).1
  unfold lnS
  split <;> first | exact h _ | rfl
/-- Line 4 goes on. -/
theorem LInv.mk_on {y : LK} (hb : y.bad = false) (ha : y.at_ < y.all.length) (g : LPnt y s3 v) (hr : y.ref = 0) (hf : GoodI y v → Fnd its y s3 = scan its s3 y.key (rest4 y)) : LInv its y.on s3 v := by
  obtain ⟨o1, o2, o3, o4, o5⟩ := on_rest y ha
  have ob : y.on.bad = false := o3.bad.trans hb
  have hB : LBase y.on := ⟨by rw [o3.h, o3.key]; exact g.b.h, by rw [o3.all, o3.h, o3.tab]; exact g.b.all, by rw [o4, o3.all]; exact g.b.vs⟩
  have hP : LPnt y.on s3 v := ⟨hB, by unfold TabI; rw [o3.tab]; exact g.tab, by unfold SeenI; rw [o4]; exact g.seen, g.sin, by rw [o3.ep]; exact g.ep, by rw [o3.pt]; exact g.pt⟩
  have hG : GoodI y.on v → GoodI y v := fun h => by unfold GoodI at h; rw [o4] at h; exact h
  have hF : Fnd its y.on s3 = Fnd its y s3 := by unfold Fnd; rw [o3.key, o3.all]
  by_cases hn : rest4 y = []
  · refine .mk_fif ob (o1 hn) hP fun h => ?_
    have := hf (hG h)
    rw [hn] at this
    rw [hF, this, o5, hr]; rfl
  · obtain ⟨q1, q2⟩ := o2 hn
    refine .mk_rd ob q1 hP (o5.trans hr) fun h => ?_
    rw [hF, q2, o3.key]
    exact hf (hG h)
theorem getD_mem {l : List (Int × Int)} {i : Nat} (h : i < l.length) : l.getD i (0, 0) ∈ l := List.mem_of_getElem? (getD_at h)
/-- A step of the Look. -/
theorem LInv.step (s : CS) (h : LInv its x s3 s.val) (ho : LOk x) (vb : Nat) : LInv its (lnX its s x vb) (if x.ph = .thd then lnS s x else s3) (lnS s x).val := by
  rw [lnS_val]
  cases hp : x.ph with
  | fst =>
    rw [if_neg (by intro c; cases c)]
    have e : lnX its s x vb = x.first (s.val 2) vb := by unfold lnX; rw [hp]
    rw [e]
    exact .mk_snd (h.bad (by rw [hp]; intro c; cases c)) rfl ⟨⟨h.h, rfl, vers_fst _⟩, rfl, .inl rfl, fun i hi => absurd hi (Nat.not_lt_zero _)⟩
  | snd =>
    rw [if_neg (by intro c; cases c)]
    have hb := h.bad (by rw [hp]; intro c; cases c)
    obtain ⟨b, r, t, sn⟩ := h.snd hp
    have hk := ho.atv (.inl hp)
    have hg := getD_at (d := ((0 : Int), (0 : Int))) hk
    obtain ⟨a, n0, han⟩ : ∃ a n0, x.vs.getD x.at_ (0, 0) = (a, n0) := ⟨_, _, rfl⟩
    rw [han] at hg
    have e : lnX its s x vb = x.second (s.val a) := by unfold lnX; rw [hp]; simp only [han]
    rw [e]
    unfold LK.second
    by_cases hodd : s.val a % 2 = 1
    · rw [if_pos hodd]; exact LInv.again h.h hb
    · rw [if_neg hodd]
      have hvs : (x.seen (s.val a)).vs = x.vs.set x.at_ (a, s.val a) := by unfold LK.seen; simp only [han]
      have hB : LBase (x.seen (s.val a)) := ⟨b.h, b.all, (seen_map x _).trans b.vs⟩
      have hS : ∀ i, i < x.at_ + 1 → ∀ a' n, (x.seen (s.val a)).vs[i]? = some (a', n) → n % 2 = 0 ∧ n ≤ s.val a' := by
        intro i hi a' n hn
        rw [hvs, List.getElem?_set] at hn
        by_cases hia : x.at_ = i
        · rw [if_pos hia, if_pos (by omega)] at hn
          simp only [Option.some.injEq, Prod.mk.injEq] at hn
          obtain ⟨rfl, rfl⟩ := hn
          exact ⟨by omega, Int.le_refl _⟩
        · rw [if_neg hia] at hn
          exact sn i (by omega) a' n hn
      by_cases hl : x.at_ + 1 = x.vs.length
      · rw [if_pos hl]
        refine .mk_thd hb rfl ⟨⟨hB.h, hB.all, hB.vs⟩, r, t, fun i hi => ?_⟩
        have hl2 : (x.seen (s.val a)).vs.length = x.vs.length := by rw [hvs]; exact List.length_set
        have hi : i < (x.seen (s.val a)).vs.length := hi
        exact hS i (by omega)
      · rw [if_neg hl]
        exact .mk_snd hb hp ⟨⟨hB.h, hB.all, hB.vs⟩, r, t, hS⟩
  | thd =>
    rw [if_pos rfl]
    have hb := h.bad (by rw [hp]; intro c; cases c)
    obtain ⟨b, r, t, sn⟩ := h.thd hp
    have e : lnX its s x vb = { x with ep := s.val 8, at_ := 0, pt := ((s.acc 1 8 (s.val 8)).cnt : Int), ph := .tag } := by unfold lnX; rw [hp]
    have e2 : lnS s x = s.acc 1 8 (s.val 8) := by unfold lnS; rw [hp]
    have e3 : (lnS s x).val = s.val := lnS_val s x
    rw [e]
    refine .mk_rd hb (.inl rfl) ⟨⟨b.h, b.all, b.vs⟩, by rw [e3]; exact t, by rw [e3]; exact sn, by rw [e3]; exact Since.refl _, by rw [e3], by rw [e2]⟩ r fun _ => ?_
    unfold Fnd lds
    rw [if_pos rfl, List.drop_zero]
  | tag =>
    rw [if_neg (by intro c; cases c)]
    have hb := h.bad (by rw [hp]; intro c; cases c)
    have P := h.pnt (.inl hp)
    obtain ⟨r, f⟩ := h.rd (.inl hp)
    have ha := ho.ata (.inl hp)
    obtain ⟨p, hpp⟩ : ∃ p, p = x.all.getD x.at_ (0, 0) := ⟨_, rfl⟩
    obtain ⟨N, hN⟩ : ∃ N, N = has (s.val (tagsA p.1 p.2)) (tag01 (hashOf x.key)) 4 := ⟨_, rfl⟩
    have e : lnX its s x vb = ({ x with sl := N } : LK).on := by unfold lnX; rw [hp]; simp only [← hpp, h.h, ← hN]
    rw [e]
    have hL : lds x = Ld.tag p :: (x.all.drop (x.at_ + 1)).map Ld.tag := by
      unfold lds
      rw [if_pos hp, List.drop_eq_getElem_cons ha, List.map_cons, hpp, List.getD_eq_getElem?_getD, List.getElem?_eq_getElem ha]; rfl
    have hR : rest4 ({ x with sl := N } : LK) = N.map (fun (n : Nat) => Ld.itm p n) ++ (x.all.drop (x.at_ + 1)).map Ld.tag := by unfold rest4; rw [hpp]
    refine .mk_on (y := { x with sl := N }) hb ha ⟨⟨P.b.h, P.b.all, P.b.vs⟩, P.tab, P.seen, P.sin, P.ep, P.pt⟩ r fun hg => ?_
    have hw := (good_place P hg ho.h (p := p) (by rw [hpp]; exact getD_mem ha)).1
    have := f hg
    show scan its s3 x.key (x.all.map Ld.tag) = _
    rw [show scan its s3 x.key (x.all.map Ld.tag) = Fnd its x s3 from rfl, this, hL, hR, scan_app]
    simp only [scan, hN, hw]
  | itm =>
    rw [if_neg (by intro c; cases c)]
    have hb := h.bad (by rw [hp]; intro c; cases c)
    have P := h.pnt (.inr (.inl hp))
    obtain ⟨r, f⟩ := h.rd (.inr hp)
    have ha := ho.ata (.inr hp)
    obtain ⟨p, hpp⟩ : ∃ p, p = x.all.getD x.at_ (0, 0) := ⟨_, rfl⟩
    obtain ⟨n, tl, hsl⟩ : ∃ n tl, x.sl = n :: tl := by
      cases hh2 : x.sl with
      | nil => exact absurd hh2 (ho.sl hp)
      | cons n tl => exact ⟨n, tl, rfl⟩
    have hn4 := ho.s4 n (by rw [hsl]; simp)
    have hL : lds x = Ld.itm p (n : Int) :: rest4 ({ x with sl := tl } : LK) := by
      unfold lds
      rw [if_neg (by rw [hp]; intro c; cases c)]
      unfold rest4
      rw [hsl, ← hpp]; rfl
    have e : lnX its s x vb = x.item its (wrap64 (s.val (itemA p.1 p.2 (n : Int)))) := by unfold lnX; rw [hp]; simp only [← hpp, hsl, List.headD_cons]
    have hh : ∀ hg : GoodI x s.val, hit its s3 x.key p (n : Int) = hit its s x.key p (n : Int) := fun hg => by
      have hw := (good_place P hg ho.h (p := p) (by rw [hpp]; exact getD_mem ha)).2 (n : Int) (by omega) (by omega)
      unfold hit; rw [hw]
    rw [e]
    by_cases hh3 : hit its s x.key p (n : Int) = true
    · have ei : x.item its (wrap64 (s.val (itemA p.1 p.2 (n : Int)))) = { x with sl := x.sl.tail, ref := wrap64 (s.val (itemA p.1 p.2 (n : Int))), ph := .fif } := if_pos hh3
      rw [ei]
      refine .mk_fif hb rfl ⟨⟨P.b.h, P.b.all, P.b.vs⟩, P.tab, P.seen, P.sin, P.ep, P.pt⟩ fun hg => ?_
      have hg : GoodI x s.val := hg
      have := f hg
      show wrap64 _ = foundR s3 0 (scan its s3 x.key (x.all.map Ld.tag))
      rw [show scan its s3 x.key (x.all.map Ld.tag) = Fnd its x s3 from rfl, this, hL]
      simp only [scan, hh hg, if_pos hh3, foundR]
      have hw := (good_place P hg ho.h (p := p) (by rw [hpp]; exact getD_mem ha)).2 (n : Int) (by omega) (by omega)
      rw [hw]
    · have ei : x.item its (wrap64 (s.val (itemA p.1 p.2 (n : Int)))) = ({ x with sl := tl } : LK).on := by
        exact (if_neg hh3).trans (by rw [hsl]; rfl)
      rw [ei]
      refine .mk_on (y := { x with sl := tl }) hb ha ⟨⟨P.b.h, P.b.all, P.b.vs⟩, P.tab, P.seen, P.sin, P.ep, P.pt⟩ r fun hg => ?_
      have hg : GoodI x s.val := hg
      have := f hg
      show scan its s3 x.key (x.all.map Ld.tag) = _
      rw [show scan its s3 x.key (x.all.map Ld.tag) = Fnd its x s3 from rfl, this, hL]
      simp only [scan, hh hg, if_neg hh3]
  | fif =>
    rw [if_neg (by intro c; cases c)]
    have hb := h.bad (by rw [hp]; intro c; cases c)
    have P := h.pnt (.inr (.inr hp))
    have f := h.fif hp
    have e : lnX its s x vb = x.fifth (s.val 2) := by unfold lnX; rw [hp]
    rw [e]
    unfold LK.fifth
    by_cases ht : s.val 2 = x.tab
    · rw [if_pos ht]
      have h3 : s3.val 2 = x.tab := by
        rcases P.tab with g | g
        · exact g
        · rcases P.sin.tab with k | k
          · rw [k] at ht; exact ht
          · rw [ht] at k; omega
      exact .mk_six hb rfl ⟨⟨P.b.h, P.b.all, P.b.vs⟩, h3, P.seen, P.ep, P.pt, s.val, P.sin, Since.refl _, f, fun i hi => absurd hi (Nat.not_lt_zero _)⟩
    · rw [if_neg ht]; exact LInv.again h.h hb
  | six =>
    rw [if_neg (by intro c; cases c)]
    have hb := h.bad (by rw [hp]; intro c; cases c)
    obtain ⟨b, t, sn, e8, ept, v5, f1, f2, f3, f4⟩ := h.six hp
    have hk := ho.atv (.inr hp)
    have hg := getD_at (d := ((0 : Int), (0 : Int))) hk
    obtain ⟨a, n0, han⟩ : ∃ a n0, x.vs.getD x.at_ (0, 0) = (a, n0) := ⟨_, _, rfl⟩
    rw [han] at hg
    have e : lnX its s x vb = x.sixth n0 (s.val a) := by unfold lnX; rw [hp]; simp only [han]
    rw [e]
    unfold LK.sixth
    by_cases hv : s.val a = n0
    · rw [if_pos hv]
      have h5 : ∀ i, i < x.at_ + 1 → ∀ a' n, x.vs[i]? = some (a', n) → v5 a' = n := by
        intro i hi a' n hn
        by_cases hia : i = x.at_
        · subst hia
          rw [hg] at hn
          simp only [Option.some.injEq, Prod.mk.injEq] at hn
          obtain ⟨rfl, rfl⟩ := hn
          have hr := b.in64 hg
          have g1 := (sn x.at_ hk a n0 hg).2
          have g2 := f1.up a hr.1 hr.2
          have g3 := f2.up a hr.1 hr.2
          omega
        · exact f4 i (by omega) a' n hn
      by_cases hl : x.at_ + 1 = x.vs.length
      · rw [if_pos hl]
        refine .mk_off h.h rfl (.inr ⟨hb, ⟨⟨b.h, b.all, b.vs⟩, t, e8, ept, ?_, fun i a' n hn => ?_⟩⟩)
        · exact f3 fun i a' n hn => h5 i (by have := lt_of_at hn; omega) a' n hn
        · have hi := lt_of_at hn
          have hi : i < x.vs.length := hi
          have hr := b.in64 (x := x) hn
          have g1 := sn i hi a' n hn
          have g2 := f1.up a' hr.1 hr.2
          have g3 := h5 i (by omega) a' n hn
          exact ⟨by omega, g1.1⟩
      · rw [if_neg hl]
        exact .mk_six hb hp ⟨⟨b.h, b.all, b.vs⟩, t, sn, e8, ept, v5, f1, f2, f3, h5⟩
    · rw [if_neg hv]; exact LInv.again h.h hb
  | off =>
    rw [if_neg (by intro c; cases c)]
    have e : lnX its s x vb = x := by unfold lnX; rw [hp]
    rw [e]; exact h
theorem LInv.new (key : ByteArray) (m : Int) (vb : Nat) : LInv its ⟨key, hashOf key, m, .fst, 0, [], [], 0, [], 0, 0, 0, false, vb⟩ s3 v := .mk_fst rfl rfl rfl
end
/-! ## What was got. -/
theorem atP_mem {its : List Itm} {v : Int → Int} {key : ByteArray} {p : Int × Int} {m n : Nat} (hn : n < m) (h : okA its v key p n = true) : wrap64 (v (itemA p.1 p.2 n)) ∈ atP its v key p m := by
  induction m with
  | zero => omega
  | succ m ih =>
    simp only [atP, List.mem_append]
    by_cases e : n = m
    · subst e; right; rw [if_pos h]; simp
    · exact .inl (ih (by omega))
theorem atL_mem {its : List Itm} {v : Int → Int} {key : ByteArray} {l : List (Int × Int)} {i k : Nat} {p : Int × Int} {r : Int} (hi : i < k) (hp : l[i]? = some p) (h : r ∈ atP its v key p 4) : r ∈ atL its v key l k := by
  induction k with
  | zero => omega
  | succ k ih =>
    simp only [atL, List.mem_append]
    by_cases e : i = k
    · subst e; right; rw [hp]; exact h
    · exact .inl (ih (by omega))
theorem scan_okA {its : List Itm} {s : CS} {key : ByteArray} {L : List (Int × Int)} {y : (Int × Int) × Int} (h : scan its s key (L.map Ld.tag) = some y) : ∃ p ∈ L, ∃ n : Nat, n < 4 ∧ y = (p, (n : Int)) ∧ okA its s.val key p n = true := by
  induction L with
  | nil => cases h
  | cons p L ih =>
    simp only [List.map_cons, scan] at h
    cases hf : fhit its s key p (has (s.val (tagsA p.1 p.2)) (tag01 (hashOf key)) 4) with
    | none =>
      rw [hf] at h
      obtain ⟨q, h1, h2⟩ := ih h
      exact ⟨q, List.mem_cons_of_mem _ h1, h2⟩
    | some z =>
      rw [hf] at h
      obtain ⟨n, h1, h2, h3⟩ := fhit_some hf
      have h : some z = some y := h
      cases h
      have h4 := ((has_iffQ _ _ 4 n).1 h1).1
      exact ⟨p, List.mem_cons_self, n, h4, h2, (okA_iff n h4).2 ⟨h1, h3⟩⟩
/-- A Look that is told: what it got was so at its point. -/
theorem off_law {its : List Itm} {x : LK} {s3 : CS} {v : Int → Int} (h : LInv its x s3 v) (hp : x.ph = .off) (hb : x.bad = false) : x.ep = s3.val 8 ∧ x.pt = (s3.cnt : Int) ∧
    ((x.ref = 0 ∧ atL its s3.val x.key (plist (hashOf x.key) (s3.val 2)) (plist (hashOf x.key) (s3.val 2)).length = []) ∨
     (1 ≤ x.ref ∧ x.ref ∈ atL its s3.val x.key (plist (hashOf x.key) (s3.val 2)) (plist (hashOf x.key) (s3.val 2)).length)) := by
  rcases h.off hp with c | ⟨-, ⟨b, t, e, p, r, -⟩⟩
  · rw [hb] at c; cases c
  · refine ⟨e, p, ?_⟩
    have hall : x.all = plist (hashOf x.key) (s3.val 2) := by rw [t, ← b.h]; exact b.all
    rw [← hall]
    unfold Fnd at r
    cases hs : scan its s3 x.key (x.all.map Ld.tag) with
    | none => rw [hs] at r; exact .inl ⟨r, (scan_at _).1 hs⟩
    | some y =>
      obtain ⟨q, hq, n, hn, rfl, hok⟩ := scan_okA hs
      rw [hs] at r
      have r : x.ref = wrap64 (s3.val (itemA q.1 q.2 (n : Int))) := r
      obtain ⟨i, hi⟩ := List.mem_iff_getElem?.1 hq
      have hm := atL_mem (k := x.all.length) (List.getElem?_eq_some_iff.1 hi).1 hi (atP_mem hn hok)
      have h2 := ((hit_iff _).1 ((okA_iff n hn).1 hok).2).1
      refine .inr ⟨?_, by rw [r]; exact hm⟩
      rw [r]
      unfold atOf at h2
      split at h2
      · rename_i hc; exact hc.1
      · cases h2
/-- And all its places' versions were even then. -/
theorem off_even {its : List Itm} {x : LK} {s3 : CS} {v : Int → Int} (h : LInv its x s3 v) (hp : x.ph = .off) (hb : x.bad = false) : ∀ p ∈ plist (hashOf x.key) (s3.val 2), s3.val (ver p.1 p.2) % 2 = 0 := by
  intro p hpm
  rcases h.off hp with c | ⟨-, ⟨b, t, e, pt, r, ev⟩⟩
  · rw [hb] at c; cases c
  · have hall : x.all = plist (hashOf x.key) (s3.val 2) := by rw [t, ← b.h]; exact b.all
    obtain ⟨k0, k1⟩ := hfold_bd x.key x.key.size
    have hm := ver_mem (fun p hp => (ver_in (plist_okL (hashOf x.key) (s3.val 2) k0 k1 p hp)).1) hpm
    rw [← hall, ← b.vs] at hm
    obtain ⟨⟨a, n⟩, hm, ha⟩ := List.mem_map.1 hm
    obtain ⟨i, hi⟩ := List.mem_iff_getElem?.1 hm
    have ha : a = ver p.1 p.2 := ha
    obtain ⟨g1, g2⟩ := ev i a n hi
    rw [← ha, g1]; exact g2
end Go.Proofs.YtdbgfidnccpmdaaGreat

/-
  A Look beside law 14's writer: what each leaves of the other.
-/
namespace Go.Proofs.YtdbgfidnccpmdaaGreat
open Go.RowKit Go.Maps TagPure
set_option linter.unusedVariables false

theorem newlook_tr (key : ByteArray) (hk : key.size ≤ maxLen) (n : Int) (hn : 0 ≤ n) (w : World) : Calls Tryz.prog 20 #[.string key, .int .i64 n] w fun e w' => ∃ fb, e = .returned (.pointer (some ⟨fb, 0, none⟩)) ∧ LookAt w' w.heap.size fb ⟨key, hashOf key, n, .fst, 0, [], [], 0, [], 0, 0, 0, false, fb⟩ ∧ Below w.heap.size w w' := by
  have hh := fun W => hash_big key hk W
  have fin : Hid (∀ w2, Below w.heap.size w w2 → LookAt (w2.alloc (.cells #[.string key, .int .u64 (hashOf key), .int .i64 n, .func (.func 88) #[] #[], .int .u64 0, .slice none 0 0, .slice none 0 0, .int .i64 0, .slice none 0 0, .int .i64 0, .int .u64 0, .int .i64 0, .bool false] 209)) w.heap.size w2.heap.size ⟨key, hashOf key, n, .fst, 0, [], [], 0, [], 0, 0, 0, false, w2.heap.size⟩ ∧ Below w.heap.size w (w2.alloc (.cells #[.string key, .int .u64 (hashOf key), .int .i64 n, .func (.func 88) #[] #[], .int .u64 0, .slice none 0 0, .slice none 0 0, .int .i64 0, .slice none 0 0, .int .i64 0, .int .u64 0, .int .i64 0, .bool false] 209))) := fun w2 b2 =>
    ⟨⟨b2.size, _, _, _, heap_alloc_new w2 _, .inl ⟨rfl, rfl⟩, World.ownsRow_nil _ _ _ _, .inl ⟨rfl, _, _, rfl, Nat.zero_le _⟩, .inr ⟨rfl, rfl⟩⟩, bnext b2 (below_alloc _ _)⟩
  have E : Hid (max n 0 = n) := by show max n 0 = n; omega
  clear hk
  go_enter Tryz.func20, Tryz.ntmps20
  go_wp2_with (go_at_call 32; refine (hh _).mono ?_; intro e w2 hh; obtain ⟨hh1, b2⟩ := hh; subst hh1; have B2 := Lib.hid b2; clear b2 hh)
  go_ret
  (try rw [E.out])
  have := fin.out w2 B2.out
  exact ⟨_, rfl, this.1, this.2⟩
section
variable {w0 w W W' : World} {B : WB} {V V' : WV} {s s' : CS} {S : List Nat} {xb fb lo : Nat} {left left' : List Chg} {qs qs' : List (Nat × Dg)} {x : LK}
theorem WMB.base (h : WMB w0 w W B V s S xb left qs) : WMB w0 W W B V s (xb :: qs.map Prod.fst) xb left qs :=
  ⟨h.ws, h.wr, FS.refl _ _, .inl (List.mem_cons_self), fun q hq => .inl (List.mem_cons_of_mem _ (List.mem_map.2 ⟨q, hq, rfl⟩))⟩
/-- The blocks' types that a writer's step turns. -/
def kW (T : TypeId) : Bool := wTy T || T == 88 || T == 322 || T == 320 || T == 317
theorem wr_fr (h : WrAt w0 W xb left qs) (hf : FS (xb :: qs.map Prod.fst) W W') : Fr kW true W W' := by
  refine ⟨hf.size, fun k c T f h1 h2 => ?_, fun c => by cases c⟩
  simp only [kW, Bool.or_eq_false_iff] at h2
  obtain ⟨⟨⟨⟨e1, e2⟩, e3⟩, e4⟩, e5⟩ := h2
  refine hf.cells k c T f h1 e1 fun hm => ?_
  rcases List.mem_cons.1 hm with rfl | hm
  · obtain ⟨a, cc, vd, b1, -, -⟩ := h.ex
    rw [b1] at h1
    simp only [Option.some.injEq, Obj.cells.injEq] at h1
    rw [← h1.2.1] at e2
    simp at e2
  · obtain ⟨q, hq, rfl⟩ := List.mem_map.1 hm
    obtain ⟨cs2, T2, b2, hT⟩ := (h.dos q hq).2.1.blk
    rw [b2] at h1
    simp only [Option.some.injEq, Obj.cells.injEq] at h1
    rw [← h1.2.1] at e3 e4 e5
    rcases hT with rfl | rfl | rfl
    · simp at e3
    · simp at e4
    · simp at e5
theorem kW_l (T : TypeId) (h : lTy T = true) : kW T = false := by
  unfold lTy at h
  simp only [Bool.or_eq_true, beq_iff_eq] at h
  rcases h with ((rfl | rfl) | rfl) | rfl <;> rfl
theorem LookE.fr {K : TypeId → Bool} {mp : Bool} (h : LookE W lo fb x) (hf : Fr K mp W W') (hK : ∀ T, lTy T = true → K T = false) : LookE W' lo fb x := by
  obtain ⟨vb, h⟩ := h; exact ⟨vb, h.fr hf hK⟩
theorem LookE.bel (h : LookE W lo fb x) (hb : Below W.heap.size W W') : LookE W' lo fb x := by
  obtain ⟨vb, h⟩ := h; exact ⟨vb, h.below hb⟩
/-- The blocks' types that a Look's step turns. -/
def kL (T : TypeId) : Bool := wTy T || T == 209 || T == 302
theorem look_fr (h : LookAt W lo fb x) (hf : Fz fb x.vb W W') : Fr kL true W W' := by
  refine ⟨hf.size, fun k c T f h1 h2 => ?_, fun c => by cases c⟩
  simp only [kL, Bool.or_eq_false_iff] at h2
  obtain ⟨⟨e1, e2⟩, e3⟩ := h2
  obtain ⟨h0, va, vv, vs, g1, g2, g3, g4, g5⟩ := h
  have hne : k ≠ fb := fun e => by
    subst e
    rw [g1] at h1
    simp only [Option.some.injEq, Obj.cells.injEq] at h1
    rw [← h1.2.1] at e2
    simp at e2
  refine hf.cells k c T f h1 e1 hne fun e => ?_
  subst e
  rcases g5 with g5 | ⟨-, g5⟩
  · obtain ⟨-, ⟨rfl, -⟩ | ⟨g, cap, cur, rfl, -, hg, -⟩⟩ := g3
    · cases g5
    · simp only [Value.ownBlock, Option.some.injEq] at g5
      rw [g5, h1] at hg
      simp only [Option.some.injEq, Obj.cells.injEq] at hg
      rw [hg.2.1] at e3
      simp at e3
  · exact hne g5
/-- The writer, where a Look has made a step. -/
theorem WMB.look (h : WMB w0 w W B V s S xb left qs) (h2 : WS w0 W' B V' s') (hf : Fr kL true W W') : WMB w0 W' W' B V' s' (xb :: qs.map Prod.fst) xb left qs := by
  obtain ⟨k1, ⟨va, vc, vd, g1, g2, g3⟩, k6, k7⟩ := h.wr
  refine ⟨h2, ⟨k1, ⟨va, vc, vd, hf.cells _ _ _ _ g1 rfl, g2, g3.of (fun g cur hg => hf.cells _ _ _ _ hg rfl)⟩, fun q hq => ⟨(k6 q hq).1, ?_, (k6 q hq).2.2⟩, k7⟩, FS.refl _ _, .inl (List.mem_cons_self), fun q hq => .inl (List.mem_cons_of_mem _ (List.mem_map.2 ⟨q, hq, rfl⟩))⟩
  have hd := (k6 q hq).2.1
  obtain ⟨b, d⟩ := q
  cases d with
  | mark xs =>
    obtain ⟨v, e1, e2⟩ := hd
    refine ⟨v, hf.cells _ _ _ _ e1 rfl, ?_⟩
    rcases e2 with e2 | ⟨g, off, cur, rfl, e3, e4⟩
    · exact .inl e2
    · exact .inr ⟨g, off, cur, rfl, hf.cells _ _ _ _ e3 rfl, e4⟩
  | out σ => exact hf.cells _ _ _ _ hd rfl
  | put σ g r => exact hf.cells _ _ _ _ hd rfl
end
/-- A Look's step beside the writer. -/
theorem lstepW {w0 w W : World} {B : WB} {V : WV} {s : CS} {S : List Nat} {xb fb : Nat} {left : List Chg} {qs : List (Nat × Dg)} {x : LK} (h : WMB w0 w W B V s S xb left qs) (hr : s.room) (hx : LookE W w0.heap.size fb x) (ho : LOk x) (hi : V.its.length ≤ 1048576) (hn : V.nts.length < 1048576) (hs : Nsteps V.nts s.cnt) (hoff : x.ph ≠ .off) :
    Calls Tryz.prog 26 #[.pointer (some ⟨fb, 0, none⟩), .pointer (some ⟨B.wb, 0, none⟩)] W fun e W' => e = .returned (.bool (decide ((lnX V.its s x 0).ph = .off))) ∧ WMB w0 W' W' B (lnV V s x) (lnS s x) (xb :: qs.map Prod.fst) xb left qs ∧ LookE W' w0.heap.size fb (lnX V.its s x 0) ∧ Fr kL true W W' := by
  obtain ⟨a, ha⟩ := hx
  refine (lstep h.ws hr ha (ho.vb a) hi hn hs hoff).mono fun e w' hh => ?_
  obtain ⟨vb, h1, -, h2, h3, h4⟩ := hh
  have hf : Fr kL true W w' := look_fr ha h4
  obtain ⟨c, hc⟩ := lnX_vb V.its s x a vb
  rw [hc] at h1 h3
  rw [lnV_vb, lnS_vb] at h2
  exact ⟨h1, h.look h2 hf, ⟨c, h3⟩, hf⟩
/-- The writer's step beside a Look. -/
theorem wrstepW {w0 w W : World} {B : WB} {V : WV} {s : CS} {S : List Nat} {xb : Nat} {left : List Chg} {qs : List (Nat × Dg)} (h : WMB w0 w W B V s S xb left qs) (hs0 : w0.heap.size ≤ W.heap.size) (hr : s.room) (hits : V.its.length ≤ 30) (hkeys : ∀ x ∈ V.its, x.key.size ≤ maxLen) (hlen : left.length ≤ 60) (hov : ∀ q ∈ qs, q.2.over = false) :
    Calls Tryz.prog 30 #[.pointer (some ⟨xb, 0, none⟩), .pointer (some ⟨B.wb, 0, none⟩)] W fun e W' => ∃ qs', e = .returned (.bool (wgo V.its s left (qs.map Prod.snd)).1) ∧ WMB w0 W' W' B V (wgo V.its s left (qs.map Prod.snd)).2.1 (xb :: qs'.map Prod.fst) xb (wgo V.its s left (qs.map Prod.snd)).2.2.1 qs' ∧ qs'.map Prod.snd = (wgo V.its s left (qs.map Prod.snd)).2.2.2 ∧ Fr kW true W W' := by
  refine (wrstep_any h.base hs0 hr hits hkeys hlen hov).mono fun e w' hh => ?_
  obtain ⟨qs', h1, h2, h3⟩ := hh
  exact ⟨qs', h1, h2.base, h3, wr_fr h.wr h2.fs⟩
/-! ## The plain laws of the rest. -/
theorem dstep_cnt (s : CS) (d : Dg) : s.cnt ≤ (d.step s).1.cnt := by
  unfold Dg.step
  split
  · exact Nat.le_refl _
  · exact Nat.le_succ _
  · split
    · exact Nat.le_succ _
    · split <;> exact Nat.le_succ _
  · split
    · exact Nat.le_succ _
    · split <;> exact Nat.le_succ _
theorem wgo_cnt (its : List Itm) (s : CS) : ∀ (left : List Chg) (row : List Dg), s.cnt ≤ (wgo its s left row).2.1.cnt
  | left, d :: r => by rw [wgo_cons]; exact dstep_cnt s d
  | [], [] => by simp [wgo]
  | c :: left, [] => by
    have ih := wgo_cnt its s left []
    unfold wgo
    split
    · split
      · exact Nat.le_succ _
      · exact ih
    · split
      · exact ih
      · split
        · exact Nat.le_refl _
        · exact dstep_cnt s _
/-- The point was passed. -/
def Ptd (x : LK) : Prop := x.ph = .tag ∨ x.ph = .itm ∨ x.ph = .fif ∨ x.ph = .six ∨ (x.ph = .off ∧ x.bad = false)
theorem ptd_again {x : LK} (h : Ptd x.again) : False := by
  unfold Ptd LK.again at h
  split at h <;> simp at h
theorem ptd_step {its : List Itm} {s : CS} {x : LK} {vb : Nat} (ht : x.ph ≠ .thd) (ho : x.ph ≠ .off) (h : Ptd (lnX its s x vb)) : Ptd x := by
  cases hp : x.ph with
  | fst =>
    have e : lnX its s x vb = x.first (s.val 2) vb := by unfold lnX; rw [hp]
    rw [e] at h
    unfold Ptd LK.first at h
    simp at h
  | snd =>
    exfalso
    have e : lnX its s x vb = x.second (s.val (x.vs.getD x.at_ (0, 0)).1) := by unfold lnX; rw [hp]
    rw [e] at h
    unfold LK.second at h
    split at h
    · exact ptd_again h
    · split at h
      · unfold Ptd at h; simp at h
      · unfold Ptd LK.seen at h; simp [hp] at h
  | thd => exact absurd hp ht
  | tag => exact .inl hp
  | itm => exact .inr (.inl hp)
  | fif => exact .inr (.inr (.inl hp))
  | six => exact .inr (.inr (.inr (.inl hp)))
  | off => exact absurd hp ho
/-- Only the third line loads the epoch. -/
theorem lns_addr {x : LK} {its : List Itm} {s3 : CS} {v : Int → Int} (hl : LInv its x s3 v) (ho : LOk x) (s' : CS) (hoff : x.ph ≠ .off) : (lnS s' x).addr = 8 ↔ x.ph = .thd := by
  have tagp : x.ph = .tag ∨ x.ph = .itm → POk12L (x.all.getD x.at_ (0, 0)) := fun hp => by
    have P := hl.pnt (by rcases hp with h | h; exact .inl h; exact .inr (.inl h))
    have hm := getD_mem (ho.ata hp)
    rw [P.b.all] at hm
    rw [P.b.all]
    exact plist_okL _ _ ho.h.1 ho.h.2 _ hm
  have verp : x.ph = .snd ∨ x.ph = .six → 64 ≤ (x.vs.getD x.at_ (0, 0)).1 := fun hp => by
    have hk := ho.atv hp
    have hg := getD_at (d := ((0 : Int), (0 : Int))) hk
    have b : LBase x := by
      rcases hp with h | h
      · exact (hl.snd h).b
      · exact (hl.six h).b
    exact (b.in64 (a := (x.vs.getD x.at_ (0, 0)).1) (n := (x.vs.getD x.at_ (0, 0)).2) hg).1
  cases hp : x.ph with
  | fst => unfold lnS; rw [hp]; simp [CS.acc]
  | snd => have h := verp (.inl hp); have e : (lnS s' x).addr = (x.vs.getD x.at_ (0, 0)).1 := by unfold lnS; rw [hp]; rfl
           rw [e]; exact ⟨fun c => by omega, fun c => by cases c⟩
  | thd => unfold lnS; rw [hp]; simp [CS.acc]
  | tag => have h := tagp (.inl hp); have e := tags_v h; have := tsize_bd (x.all.getD x.at_ (0, 0)).1; have := h.2.1; have e2 : (lnS s' x).addr = tagsA (x.all.getD x.at_ (0, 0)).1 (x.all.getD x.at_ (0, 0)).2 := by unfold lnS; rw [hp]; rfl
           rw [e2, e]; exact ⟨fun c => by omega, fun c => by cases c⟩
  | itm =>
    have h := tagp (.inr hp)
    obtain ⟨n, tl, hsl⟩ : ∃ n tl, x.sl = n :: tl := by
      cases hh2 : x.sl with
      | nil => exact absurd hh2 (ho.sl hp)
      | cons n tl => exact ⟨n, tl, rfl⟩
    have hn4 := ho.s4 n (by rw [hsl]; simp)
    have hd : x.sl.headD 0 = n := by rw [hsl]; rfl
    have e := item_v h (k := (n : Int)) (by omega) (by omega)
    have := tsize_bd (x.all.getD x.at_ (0, 0)).1; have := h.2.1
    have e2 : (lnS s' x).addr = itemA (x.all.getD x.at_ (0, 0)).1 (x.all.getD x.at_ (0, 0)).2 (n : Int) := by unfold lnS; rw [hp]; simp only [hd]; rfl
    rw [e2, e]; exact ⟨fun c => by omega, fun c => by cases c⟩
  | fif => unfold lnS; rw [hp]; simp [CS.acc]
  | six => have h := verp (.inr hp); have e : (lnS s' x).addr = (x.vs.getD x.at_ (0, 0)).1 := by unfold lnS; rw [hp]; rfl
           rw [e]; exact ⟨fun c => by omega, fun c => by cases c⟩
  | off => exact absurd hp hoff
theorem lns_cnt {x : LK} (s : CS) (h : x.ph ≠ .off) : (lnS s x).cnt = s.cnt + 1 ∧ (lnS s x).n = s.n + 1 := by
  cases hp : x.ph <;> first | exact absurd hp h | (unfold lnS; rw [hp]; exact ⟨rfl, rfl⟩)
theorem lnX_key (its : List Itm) (s : CS) (x : LK) (vb : Nat) : (lnX its s x vb).key = x.key := by
  obtain ⟨key, h, left, ph, tab, all, vs, at_, sl, ref, ep, pt, bad, vb0⟩ := x
  cases ph
  · rfl
  · show (LK.second _ _).key = _
    unfold LK.second LK.seen LK.again
    split
    · split <;> rfl
    · split <;> rfl
  · rfl
  · show (LK.on _).key = _
    unfold LK.on
    split
    · split <;> rfl
    · rfl
  · show (LK.item _ _ _).key = _
    unfold LK.item LK.on
    split
    · rfl
    · split
      · split <;> rfl
      · rfl
  · show (LK.fifth _ _).key = _
    unfold LK.fifth LK.again
    split
    · rfl
    · split <;> rfl
  · show (LK.sixth _ _ _).key = _
    unfold LK.sixth LK.again
    split
    · split <;> rfl
    · split <;> rfl
  · rfl
theorem VBd.look {s : CS} {x : LK} (h : VBd s) : VBd (lnS s x) := fun a h1 h2 => by
  rw [lnS_val]; have := h a h1 h2; have := (lnS_le s x).2.2; omega
end Go.Proofs.YtdbgfidnccpmdaaGreat

/-
  Looks beside a writer: what holds ahead of each step.
-/
namespace Go.Proofs.YtdbgfidnccpmdaaGreat
open Go.RowKit Go.Maps TagPure
set_option linter.unusedVariables false

/-- The writer and the Look. -/
structure SoB (w0 W : World) (B : WB) (q : Rdg) (xb fb k : Nat) (V : WV) (s : CS) (lf : List Chg) (qs : List (Nat × Dg)) (x : LK) (s3 : CS) : Prop where
  m : WMB w0 W W B V s (xb :: qs.map Prod.fst) xb lf qs
  l : LookE W w0.heap.size fb x
  its : V.its = q.its
  nts : V.nts.length ≤ k
  ns : Nsteps V.nts s.cnt
  ph : WPh s.val (qs.map Prod.snd)
  rl : RLk (qs.map Prod.snd)
  vb : VBd s
  cost : 5 * lf.length + rcost (qs.map Prod.snd) ≤ 300
  bn : s.n ≤ 10 + k
  bc : s.cnt ≤ 10 + k
  li : LInv q.its x s3 s.val
  lo : LOk x
  key : x.key = q.key
/-- What was read at the point. -/
structure SoA (w0 W : World) (q : Rdg) (x : LK) (s3 : CS) (A : List Int) (v6 : Value) (ep pt : Int) : Prop where
  a : W.ownsRow w0.heap.size 3 1 v6 A.length (iv A)
  al : A.length ≤ 16
  pp : Ptd x → A = atL q.its s3.val q.key (plist (hashOf q.key) (s3.val 2)) (plist (hashOf q.key) (s3.val 2)).length ∧ ep = s3.val 8 ∧ pt = s3.cnt ∧ 0 < pt
theorem WPh.far {v : Int → Int} {row : List Dg} (h : WPh v row) {g : Int} (hg : g < 64) (y : Int) : WPh (upd v g y) row := by
  cases h with
  | z h => exact .z _ (even_far h (.inr hg) y)
  | a a0 d h h0 hd => exact .a _ a0 d (even_far h (.inr hg) y) h0 hd
  | b a0 d h h0 hd => exact .b _ a0 d (fun a h1 h2 => by unfold upd; rw [if_neg (by omega)]; exact h a h1 h2) h0 hd
  | c a0 h h0 => exact .c _ a0 (fun a h1 h2 => by unfold upd; rw [if_neg (by omega)]; exact h a h1 h2) h0
section
variable {w0 W W' : World} {B : WB} {q : Rdg} {xb fb k : Nat} {V : WV} {s : CS} {lf : List Chg} {qs : List (Nat × Dg)} {x : LK} {s3 : CS} {A : List Int} {v6 : Value} {ep pt : Int}
theorem SoB.room (h : SoB w0 W B q xb fb k V s lf qs x s3) (hk : k ≤ 400) : s.room := CS.room_of 500 (by have := h.bn; have := h.bc; omega) (by unfold lim; decide)
theorem SoB.up (h : SoB w0 W B q xb fb k V s lf qs x s3) : SoB w0 W B q xb fb (k + 1) V s lf qs x s3 :=
  { h with nts := Nat.le_succ_of_le h.nts, bn := by have := h.bn; omega, bc := by have := h.bc; omega }
theorem SoB.below (h : SoB w0 W B q xb fb k V s lf qs x s3) (hb : Below W.heap.size W W') : SoB w0 W' B q xb fb k V s lf qs x s3 :=
  { h with m := (h.m.below hb).base, l := h.l.bel hb }
theorem SoA.fr {K : TypeId → Bool} {mp : Bool} (h : SoA w0 W q x s3 A v6 ep pt) (hf : Fr K mp W W') (hK : K 3 = false) : SoA w0 W' q x s3 A v6 ep pt := ⟨own_fr h.a hf hK, h.al, h.pp⟩
theorem SoA.below (h : SoA w0 W q x s3 A v6 ep pt) (hb : Below W.heap.size W W') : SoA w0 W' q x s3 A v6 ep pt := h.fr (below_fr hb (fun _ => false) false) rfl
/-- The writer has made a step. -/
theorem SoB.wstep (h : SoB w0 W B q xb fb k V s lf qs x s3) (hk : k ≤ 400) {qs' : List (Nat × Dg)}
    (h2 : WMB w0 W' W' B V (wgo V.its s lf (qs.map Prod.snd)).2.1 (xb :: qs'.map Prod.fst) xb (wgo V.its s lf (qs.map Prod.snd)).2.2.1 qs') (h3 : qs'.map Prod.snd = (wgo V.its s lf (qs.map Prod.snd)).2.2.2) (hf : Fr kW true W W') :
    ∃ s' lf', SoB w0 W' B q xb fb (k + 1) V s' lf' qs' x s3 := by
  have hsn := wgo_since V.its s h.vb (by have := h.bc; omega) lf (qs.map Prod.snd) h.ph h.rl
  have hlw := wgo_law V.its s lf (qs.map Prod.snd) h.ph
  have hcn := wgo_cnt V.its s lf (qs.map Prod.snd)
  obtain ⟨R, hR⟩ : ∃ R, R = wgo V.its s lf (qs.map Prod.snd) := ⟨_, rfl⟩
  rw [← hR] at h2 h3 hsn hlw hcn
  have hbn := h.bn; have hbc := h.bc; have hco := h.cost
  have hB : R.2.1.n ≤ 10 + (k + 1) ∧ R.2.1.cnt ≤ 10 + (k + 1) ∧ 5 * R.2.2.1.length + rcost R.2.2.2 ≤ 300 ∧ WPh R.2.1.val R.2.2.2 := by
    rcases hlw with hn | ⟨hn, he⟩
    · have := hn.n; have := hn.cnt; have := hn.cost
      exact ⟨by omega, by omega, by omega, hn.ph⟩
    · rw [hn]; exact ⟨by show s.n ≤ _; omega, by show s.cnt ≤ _; omega, by show 5 * 0 + 0 ≤ 300; omega, .z _ he⟩
  exact ⟨R.2.1, R.2.2.1, { m := h2, l := h.l.fr hf kW_l, its := h.its, nts := Nat.le_succ_of_le h.nts, ns := h.ns.le (by omega), ph := by rw [h3]; exact hB.2.2.2, rl := by rw [h3]; exact hsn.lk, vb := hsn.bd, cost := by rw [h3]; exact hB.2.2.1, bn := hB.1, bc := hB.2.1, li := h.li.since hsn.sin, lo := h.lo, key := h.key }⟩
/-- A tick. -/
theorem SoB.tick (h : SoB w0 W B q xb fb k V s lf qs x s3) {y : Int} (h2 : WS w0 W' B V (s.acc 3 8 y)) (hf : Fr wTy true W W') : SoB w0 W' B q xb fb (k + 1) V (s.acc 3 8 y) lf qs x s3 := by
  have hbn := h.bn; have hbc := h.bc
  refine { m := (h.m.move h2 hf).base, l := h.l.fr hf w_not_l, its := h.its, nts := Nat.le_succ_of_le h.nts, ns := h.ns.le ?_, ph := ?_, rl := h.rl, vb := h.vb.upd_far (g := 8) (y := y) (.inr (by decide)) rfl (Nat.le_succ _), cost := h.cost, bn := ?_, bc := ?_, li := h.li.since (since_far (a := 8) ⟨by decide, by decide⟩ y), lo := h.lo, key := h.key }
  · show (s.cnt : Int) ≤ ((s.cnt + 1 : Nat) : Int); omega
  · exact h.ph.far (by decide) y
  · show s.n + 1 ≤ _; omega
  · show s.cnt + 1 ≤ _; omega
/-- The Look has made a step. -/
theorem SoB.lstep (h : SoB w0 W B q xb fb k V s lf qs x s3) (hoff : x.ph ≠ .off) (h2 : WMB w0 W' W' B (lnV V s x) (lnS s x) (xb :: qs.map Prod.fst) xb lf qs) (hl : LookE W' w0.heap.size fb (lnX V.its s x 0)) :
    SoB w0 W' B q xb fb (k + 1) (lnV V s x) (lnS s x) lf qs (lnX q.its s x 0) (if x.ph = .thd then lnS s x else s3) := by
  have hbn := h.bn; have hbc := h.bc
  obtain ⟨c1, c2⟩ := lns_cnt s hoff
  exact { m := h2, l := by rw [← h.its]; exact hl, its := (lnV_its _ _ _).trans h.its, nts := by have := lnV_nts V s x; have := h.nts; omega, ns := lnV_steps _ _ _ h.ns, ph := by rw [lnS_val]; exact h.ph, rl := h.rl, vb := h.vb.look, cost := h.cost, bn := by omega, bc := by omega, li := h.li.step s h.lo 0, lo := h.lo.next _ _ _, key := (lnX_key _ _ _ _).trans h.key }
theorem SoA.lstep (h : SoA w0 W q x s3 A v6 ep pt) (hoff : x.ph ≠ .off) (ht : x.ph ≠ .thd) (its : List Itm) (s : CS) (vb : Nat) : SoA w0 W q (lnX its s x vb) s3 A v6 ep pt := ⟨h.a, h.al, fun hp => h.pp (ptd_step ht hoff hp)⟩
/-- Another Look. -/
theorem SoB.new {fb' : Nat} (h : SoB w0 W B q xb fb k V s lf qs x s3) (hb : Below W.heap.size W W') {tr : Int} (htr : 0 ≤ tr ∧ tr < 9223372036854775808) (a : LookAt W' W.heap.size fb' ⟨q.key, hashOf q.key, tr, .fst, 0, [], [], 0, [], 0, 0, 0, false, fb'⟩) :
    SoB w0 W' B q xb fb' k V s lf qs ⟨q.key, hashOf q.key, tr, .fst, 0, [], [], 0, [], 0, 0, 0, false, fb'⟩ s3 :=
  { h with m := (h.m.below hb).base, l := LookAt.e (a.lower h.m.ws.below.size), li := LInv.new _ _ _, lo := LOk.new q.key tr htr fb', key := rfl }
theorem SoA.new {y : LK} (h : SoA w0 W q x s3 A v6 ep pt) (hy : y.ph = .fst) (s3' : CS) (pt' : Int) : SoA w0 W q y s3' A v6 ep pt' := ⟨h.a, h.al, fun hp => by unfold Ptd at hp; rw [hy] at hp; simp at hp⟩
end
end Go.Proofs.YtdbgfidnccpmdaaGreat

/-
  LooksSo: Looks beside a writer: the walk.
-/
namespace Go.Proofs.YtdbgfidnccpmdaaGreat
open Go.RowKit Go.Maps TagPure
set_option linter.unusedVariables false

theorem By8.getS {w : World} {a : Option Addr} {cap : Nat} {l : List Int} (h : By8 w a cap l) (i : Nat) (hi : i < l.length) :
    ∃ b off, a = some ⟨b, off, none⟩ ∧ (0 ≤ l.getD i 0 ∧ l.getD i 0 < 256) ∧ w.cell? ⟨b, off + i, none⟩ = some (.int .u8 (l.getD i 0)) := by
  have e : l.getD i 0 = l[i] := by rw [List.getD_eq_getElem?_getD, List.getElem?_eq_getElem hi]; rfl
  rw [e]
  rcases h.cell with rfl | ⟨b, off, rfl, h5⟩
  · simp at hi
  · exact ⟨b, off, rfl, h.wf _ (List.getElem_mem hi), h5 i hi⟩
def FRel (f : Bool) (r : Int) (A : List Int) (j : Nat) : Prop := f = true ↔ r = 0 ∨ r ∈ A.take j
def FIn (r : Int) (A : List Int) : Prop := r = 0 ∨ r ∈ A
theorem facc14 (a b c d : Int) (W : World) : (Instr.field 110 (.agg #[.int .u8 a, .int .u64 b, .int .u64 c, .int .u64 d]) 1).run Tryz.prog W = .ok (.int .u64 b) W := by kernel_rfl
set_option maxRecDepth 100000 in
set_option maxHeartbeats 8000000 in
theorem lso_any (q : Rdg) (w : World) (hr : RdgRd w q) (hks : ∀ x ∈ q.its, x.key.size ≤ maxLen) : Calls Tryz.prog 6 #[.agg q.cells] w fun e w' => e = .returned (.bool true) ∧ Below w.heap.size w w' := by
  have hB := below_alloc w (.cells q.cells 83)
  have z := heap_alloc_new w (.cells q.cells 83)
  have HR := Lib.hid (hr.below hB); have HB := Lib.hid hB; have HZ := Lib.hid z; have HKS := Lib.hid hks
  clear hr hB z hks
  go_enter Tryz.func6, Tryz.ntmps6
  go_upto_region 1 with (fail)
  change Code.wp _ _ _ _ (w.alloc (.cells q.cells 83))
  obtain ⟨w1, hw1⟩ : ∃ w1, w1 = w.alloc (.cells q.cells 83) := ⟨_, rfl⟩
  rw [← hw1] at HR HB HZ ⊢
  clear hw1
  obtain ⟨pq, hpq⟩ : ∃ pq, pq = w.heap.size := ⟨_, rfl⟩
  rw [← hpq] at HZ ⊢
  clear hpq
  obtain ⟨c0, c1, c2, c3, c4, c5⟩ := rdg_cells HZ.out
  have hgr := rgreat_any q w1 HR.out
  unfold RGPost at hgr
  go_upto_if 18 with (go_at_call 28; refine hgr.mono ?_; intro e w2 hh; obtain ⟨g, hh1, b2, hg⟩ := hh; subst hh1; have B2 := Lib.hid b2; have HG := Lib.hid hg; clear b2 hg hgr c0 c1 c2 c3 c4 c5; cases g)
  rotate_left
  · go_wp2_with (go_at_call 19; refine (lives14 _).mono ?_; rintro e w3 ⟨rfl, b3⟩)
    go_ret
    have h1 := HB.out.trans (B2.out.mono HB.out.size)
    exact ⟨rfl, h1.trans (b3.mono h1.size)⟩
  obtain ⟨hil, hcl, hsl⟩ := HG.out trivial
  have hr2 := HR.out.below B2.out
  have HB2 := Lib.hid (HB.out.trans (B2.out.mono HB.out.size))
  have hz2 := (B2.out.block _ (Array.getElem?_eq_some_iff.1 HZ.out).1).trans HZ.out
  have HZ2 := Lib.hid hz2
  obtain ⟨c0, c1, c2, c3, c4, c5⟩ := rdg_cells hz2
  have hbg := rbegin_any q w2 hr2 hil
  unfold RBPost at hbg
  have HR2 := Lib.hid hr2
  have HIL := Lib.hid hil; have HCL := Lib.hid hcl; have HSL := Lib.hid hsl
  clear hr2 hz2 hil hcl hsl HG B2 HB HR HZ
  go_upto_region 6 with (go_at_call 29; refine hbg.mono ?_; intro e w3 hh; obtain ⟨w0, B, hbw, hh1, hf⟩ := hh; subst hh1; have HWS := Lib.hid hf; have HBW := Lib.hid hbw; clear hbg hf hbw c0 c1 c2 c3 c4 c5)
  obtain ⟨s0, hs0⟩ : ∃ s0, s0 = CS.init [(2, tword (rbits q) 0)] := ⟨_, rfl⟩
  obtain ⟨V, hV⟩ : ∃ V : WV, V = { v0 ⟨rbits q, 8, 3, 1, 16⟩ with its := q.its } := ⟨_, rfl⟩
  rw [← hs0, ← hV] at HWS
  have HV := Lib.hid (show V.its = q.its ∧ V.nts = [] by rw [hV]; exact ⟨rfl, rfl⟩)
  have hbi : 1 ≤ rbits q ∧ rbits q ≤ 6 := by unfold rbits; omega
  have HS0 : Hid (EvenV s0.val ∧ s0.n ≤ 10 ∧ s0.cnt ≤ 10 ∧ VBd s0) := by
    rw [hs0]
    have e : ∀ a, 64 ≤ a → (CS.init [(2, tword (rbits q) 0)]).val a = 0 := fun a h1 => by
      show (if a = 2 then tword (rbits q) 0 else 0) = 0
      rw [if_neg (by omega)]
    exact ⟨fun a h1 h2 => by rw [e a h1]; rfl, Nat.le_of_ble_eq_true rfl, Nat.le_of_ble_eq_true rfl, fun a h1 h2 => by rw [e a h1]; omega⟩
  have HBB := Lib.hid (HB2.out.trans (HBW.out.mono HB2.out.size))
  have hz0 := (HBW.out.block _ (Array.getElem?_eq_some_iff.1 HZ2.out).1).trans HZ2.out
  have HZF := Lib.hid (fun (W : World) (hW : Below w0.heap.size w0 W) => rdg_cells ((hW.block _ (Array.getElem?_eq_some_iff.1 hz0).1).trans hz0))
  have HCH := Lib.hid (HR2.out.chs.below HBW.out)
  have HSP := Lib.hid (HR2.out.steps.below HBW.out)
  have HKY := Lib.hid HR2.out.key
  have HTR := Lib.hid HR2.out.tries
  have c2 : w3.cell? ⟨pq, 2, none⟩ = some (.slice q.ca q.chs.length q.cc) := (HZF.out _ HWS.out.below).2.2.1
  clear hs0 hV hbi hz0 HB2 HZ2 HBW HR2
  -- the writer
  go_upto_region 7 with (fail)
  have hbA := below_alloc w3 (.cells #[.slice q.ca q.chs.length q.cc, .slice none 0 0] 88)
  have hzA := heap_alloc_new w3 (.cells #[.slice q.ca q.chs.length q.cc, .slice none 0 0] 88)
  have H4 := HWS.out.keep hbA
  change Code.wp _ _ _ _ (w3.alloc (.cells #[.slice q.ca q.chs.length q.cc, .slice none 0 0] 88))
  have HM4 : Hid (WMB w0 (w3.alloc (.cells #[.slice q.ca q.chs.length q.cc, .slice none 0 0] 88)) (w3.alloc (.cells #[.slice q.ca q.chs.length q.cc, .slice none 0 0] 88)) B V s0 [w3.heap.size] w3.heap.size q.chs []) := Lib.hid ⟨H4, ⟨HWS.out.below.size, ⟨_, _, _, hzA, HCH.out, none, 0, rfl, Nat.le_refl _, Nat.zero_le _, .inl rfl⟩, (fun q hq => by cases hq), List.nodup_nil⟩, FS.refl _ _, .inl (List.mem_singleton.2 rfl), (fun q hq => by cases hq)⟩
  clear hbA hzA H4 c2 HWS
  generalize w3.alloc (.cells #[.slice q.ca q.chs.length q.cc, .slice none 0 0] 88) = w4 at *
  generalize w3.heap.size = xb at *
  obtain ⟨-, -, -, c3, c4, -⟩ := HZF.out _ HM4.out.ws.below
  have htr : 0 ≤ wrap64 (q.tries.tmod 17) ∧ wrap64 (q.tries.tmod 17) < 17 := by
    have := HTR.out
    rw [Int.tmod_eq_emod_of_nonneg this.1, IntWalk.wrap64_in _ (by omega)]; omega
  have hnl := fun W => newlook_tr q.key HKY.out (wrap64 (q.tries.tmod 17)) htr.1 W
  have HTT := Lib.hid htr; have HNL := Lib.hid hnl
  clear htr
  go_upto_region 8 with (go_at_call 20; refine (hnl _).mono ?_; intro e w5 hh; obtain ⟨fb0, hh1, a5, b5⟩ := hh; subst hh1; have A5 := Lib.hid a5; have B5 := Lib.hid b5; clear a5 b5 hnl c3 c4)
  have HB5 : Hid (SoB w0 w5 B q xb fb0 0 V s0 q.chs [] ⟨q.key, hashOf q.key, wrap64 (q.tries.tmod 17), .fst, 0, [], [], 0, [], 0, 0, 0, false, fb0⟩ s0) := Lib.hid
    { m := (HM4.out.below B5.out).base, l := LookAt.e (A5.out.lower HM4.out.ws.below.size), its := HV.out.1, nts := (by rw [HV.out.2]; exact Nat.le_refl _), ns := (by rw [HV.out.2]; exact fun y hy => by cases hy), ph := .z _ HS0.out.1, rl := ⟨0, fun d hd => (by cases hd)⟩, vb := HS0.out.2.2.2, cost := (by have := HCL.out; simp [rcost]; omega), bn := HS0.out.2.1, bc := HS0.out.2.2.1, li := LInv.new _ _ _, lo := LOk.new q.key _ (by have := HTT.out; omega) fb0, key := rfl }
  clear HM4 A5 B5 HS0 HTR HCH HCL
  go_wp2_with fail
  go_loopw [5, 6, 7, 8, 9] (fun v5 v6 v7 v8 v9 wr => ∃ (k fb : Nat) (V : WV) (s : CS) (lf : List Chg) (qs : List (Nat × Dg)) (x : LK) (s3 : CS) (A : List Int) (ep pt : Int), v9 = .int .i64 k ∧ v5 = .pointer (some ⟨fb, 0, none⟩) ∧ v7 = .int .u64 ep ∧ v8 = .int .i64 pt ∧ k ≤ q.steps.length ∧ SoB w0 wr B q xb fb k V s lf qs x s3 ∧ SoA w0 wr q x s3 A v6 ep pt ∧ x.ph ≠ .off) (fun _ _ _ _ i _ => 1000 - (intOf i).toNat)
  case atStart => exact ⟨0, fb0, _, _, _, _, _, s0, [], 0, 0, rfl, rfl, rfl, rfl, Nat.zero_le _, HB5.out, ⟨World.ownsRow_nil _ _ _ _, Nat.zero_le _, fun hp => by unfold Ptd at hp; simp at hp⟩, fun c => by cases c⟩
  case round =>
    clear HB5
    obtain ⟨k, fb, V', s, lf, qs, x, s3, A, ep, pt, rfl, rfl, rfl, rfl, hk, hR, hA, hoff⟩ := hrel
    obtain ⟨va, vc, hva⟩ := own_sl2 hA.a
    subst hva
    have hsl := HSL.out
    obtain ⟨-, -, -, c3, c4, c5⟩ := HZF.out _ hR.m.ws.below
    have HR := Lib.hid hR; have HA := Lib.hid hA; have HO := Lib.hid hoff
    clear hR hA hoff
    by_cases hlt : k < q.steps.length
    · obtain ⟨sb, so, hsa, hb8, hbc⟩ := (HSP.out.below HR.out.m.ws.below).getS k hlt
      rw [hsa] at c5
      clear hsa
      have hlt' : (k : Int) < q.steps.length := by omega
      have hk4 : (k : Int) < 1000 := by omega
      generalize q.steps.getD k 0 = b at *
      have HK := Lib.hid hlt
      go_upto_region 15 with (fail)
      by_cases hw : b % 8 < 3
      · -- the writer
        have hwv : b % 8 = 0 ∨ b % 8 = 1 ∨ b % 8 = 2 := by omega
        have hst := wrstepW HR.out.m HR.out.m.ws.below.size (HR.out.room (by omega)) (by rw [HR.out.its]; exact HIL.out) (by rw [HR.out.its]; exact HKS.out) (by have := HR.out.cost; omega) (fun x hx => HR.out.ph.over _ (List.mem_map.2 ⟨x, hx, rfl⟩))
        have HW := Lib.hid (fun (W' : World) (qs' : List (Nat × Dg)) => HR.out.wstep (W' := W') (qs' := qs') (by omega))
        obtain ⟨R, hRR⟩ : ∃ R, R = wgo V'.its s lf (qs.map Prod.snd) := ⟨_, rfl⟩
        rw [← hRR] at hst
        have HRR := Lib.hid hRR
        clear hw hRR hb8 hsl hlt
        generalize b % 8 = r at *
        rcases hwv with rfl | rfl | rfl
        all_goals
          go_wp2_with (go_at_call 30; refine hst.mono ?_; intro e w6 hh; obtain ⟨qs', hh1, h6, hq6, hf6⟩ := hh; subst hh1; have H6 := Lib.hid h6; have HQ6 := Lib.hid hq6; have HF6 := Lib.hid hf6; clear h6 hq6 hf6 hst)
          go_roundw
          case rel =>
            obtain ⟨s', lf', h7⟩ := HW.out _ _ (by rw [← HRR.out]; exact H6.out) (by rw [← HRR.out]; exact HQ6.out) HF6.out
            exact ⟨k + 1, _, _, _, _, _, _, _, _, _, _, by go_num, rfl, rfl, rfl, HK.out, h7, HA.out.fr HF6.out rfl, HO.out⟩
          case measure => have := HK.out; have := HSL.out; simp [intOf]; omega
      · by_cases h3 : b % 8 = 3
        · -- a tick, perhaps
          have htk := HR.out.m.ws.tick (HR.out.room (by omega))
          clear hw hsl hlt
          by_cases h4 : b.tdiv 8 % 4 = 0
          · have d4 : (b.tdiv 8 % 4 == 0) = true := beq_iff_eq.2 h4
            clear h4 hb8
            go_wp2_with (go_at_call 41; refine htk.mono ?_; intro e w6 hh; obtain ⟨hh1, h6, f6⟩ := hh; subst hh1; have H6 := Lib.hid (HR.out.tick h6 f6); have HA6 := Lib.hid (HA.out.fr f6 rfl); clear h6 f6 htk)
            go_roundw
            case rel => exact ⟨k + 1, _, _, _, _, _, _, _, _, _, _, by go_num, rfl, rfl, rfl, HK.out, H6.out, HA6.out, HO.out⟩
            case measure => have := HK.out; have := HSL.out; simp [intOf]; omega
          · have d4 : (b.tdiv 8 % 4 == 0) = false := beq_eq_false_iff_ne.2 h4
            clear h4 hb8 htk
            go_wp2
            exact ⟨⟨k + 1, _, _, _, _, _, _, _, _, _, _, by go_num, rfl, rfl, rfl, HK.out, HR.out.up, HA.out, HO.out⟩, by have := HK.out; have := HSL.out; simp [intOf]; omega⟩
        · -- the Look
          have dd0 : (b % 8 == 0) = false := beq_eq_false_iff_ne.2 (by omega)
          have dd1 : (b % 8 == 1) = false := beq_eq_false_iff_ne.2 (by omega)
          have dd2 : (b % 8 == 2) = false := beq_eq_false_iff_ne.2 (by omega)
          have dd3 : (b % 8 == 3) = false := beq_eq_false_iff_ne.2 (by omega)
          have hs1 := HR.out.m.ws.steps5
          have hls := lstepW HR.out.m (HR.out.room (by omega)) HR.out.l HR.out.lo (by rw [HR.out.its]; have := HIL.out; omega) (by have := HR.out.nts; omega) HR.out.ns HO.out
          have hcn := (lns_cnt s HO.out).1
          have hsb := fun (W' : World) => HR.out.lstep (W' := W') HO.out
          have had := lns_addr HR.out.li HR.out.lo s HO.out
          have hsa := HA.out
          have hx8 := HR.out.lo
          rw [HR.out.its] at hls hsb
          obtain ⟨X, hX⟩ : ∃ X, X = lnX q.its s x 0 := ⟨_, rfl⟩
          obtain ⟨V2, hV2⟩ : ∃ V2, V2 = lnV V' s x := ⟨_, rfl⟩
          obtain ⟨s2, hs2⟩ : ∃ s2, s2 = lnS s x := ⟨_, rfl⟩
          rw [← hX, ← hV2, ← hs2] at hls hsb
          rw [← hs2] at hcn had
          obtain ⟨n0, hn0⟩ : ∃ n0 : Int, n0 = s.cnt := ⟨_, rfl⟩
          obtain ⟨n1, hn1⟩ : ∃ n1 : Int, n1 = s2.cnt := ⟨_, rfl⟩
          rw [← hn0] at hs1
          have hwr : wrap64 (n0 + 1) = n1 := by
            have := HR.out.bc
            rw [IntWalk.wrap64_in _ (by omega)]; omega
          have HN1 := Lib.hid hn1; have HWR := Lib.hid hwr; have HX := Lib.hid hX; have HSB := Lib.hid hsb; have HAD := Lib.hid had; have HCN := Lib.hid hcn; have HN0 := Lib.hid hn0
          have HNP : Hid (0 < n1) := by show 0 < n1; rw [hn1, hcn]; omega
          have hst := Lib.hid (fun (W : World) (h : WS w0 W B V2 s2) => h.steps5)
          rw [← hn1] at hst
          have hla := Lib.hid (fun (W : World) (h : WS w0 W B V2 s2) => h.last5)
          clear hw h3 hsl hlt hb8 hwr hX hV2 hs2 hn0 hn1 hsb had hcn hsa hx8
          generalize b % 8 = r at *
          go_upto_region 24 with (first
            | (go_at_call 42; refine hs1.mono ?_; intro e w' hh; obtain ⟨hh1, hh2⟩ := hh; subst hh1; obtain rfl := hh2.symm; clear hs1)
            | (go_at_call 26; refine hls.mono ?_; intro e w6 hh; obtain ⟨hh1, h6, l6, f6⟩ := hh; subst hh1; have H6 := Lib.hid (HSB.out _ h6 l6); have HA6 := Lib.hid (HA.out.fr f6 rfl); clear h6 l6 f6 hls))
          clear dd0 dd1 dd2 dd3 c3 c4 c5
          have hs6 := hst.out _ H6.out.m.ws
          have hwr := HWR.out
          go_upto_region 26 with (go_at_call 42; refine hs6.mono ?_; intro e w' hh; obtain ⟨hh1, hh2⟩ := hh; subst hh1; obtain rfl := hh2.symm; clear hs6)
          clear hwr
          by_cases ht : x.ph = .thd
          · -- the point
            have H6b : Hid (SoB w0 w6 B q xb fb (k + 1) V2 s2 lf qs X s2) := by have := H6.out; rw [if_pos ht] at this; exact this
            have hXp : X.ph = .tag := by rw [HX.out]; unfold lnX; rw [ht]
            have hXo : decide (X.ph = .off) = false := decide_eq_false (by rw [hXp]; intro c; cases c)
            rw [hXo]
            have ha8 : s2.addr = 8 := HAD.out.2 ht
            have hl6 := hla.out _ H6b.out.m.ws
            rw [ha8] at hl6
            generalize s2.kind = kd at *
            generalize s2.was = wa at *
            generalize s2.is = is_ at *
            have HXP := Lib.hid hXp
            have hfd := fun W => facc14 kd 8 wa is_ W
            have c0 := H6b.out.m.ws.c0
            have hAP := plist_len (hashOf q.key) (s2.val 2)
            have hrd := Lib.hid (fun (W : World) (h : WS w0 W B V2 s2) => readat_any h q.key HKY.out (by rw [H6b.out.its]; have := HIL.out; omega) hAP)
            rw [H6b.out.its] at hrd
            obtain ⟨A2, hA2⟩ : ∃ A2, A2 = atL q.its s2.val q.key (plist (hashOf q.key) (s2.val 2)) (plist (hashOf q.key) (s2.val 2)).length := ⟨_, rfl⟩
            have hal : A2.length ≤ 16 := by have := atL_len q.its s2.val q.key (plist (hashOf q.key) (s2.val 2)) (plist (hashOf q.key) (s2.val 2)).length; rw [hA2]; omega
            rw [← hA2] at hrd
            have HA2 := Lib.hid hA2; have HAL := Lib.hid hal
            obtain ⟨e2, he2⟩ : ∃ e2, e2 = s2.val 8 := ⟨_, rfl⟩
            have HE2 := Lib.hid he2
            have hpk := Lib.hid (fun (W : World) (h : WS w0 W B V2 s2) => h.peek 8 (by decide))
            rw [← he2] at hpk
            clear ht hXp hXo ha8 hAP hA2 hal he2 HA6 HA H6
            go_upto_region 27 with (go_at_call 43; refine hl6.mono ?_; intro e w7 hh; obtain ⟨hh1, b7⟩ := hh; subst hh1; have H7 := Lib.hid (H6b.out.below b7); clear b7 hl6 c0)
            clear H6b hla
            obtain ⟨-, -, -, c3, -, -⟩ := HZF.out _ H7.out.m.ws.below
            have hr7 := hrd.out _ H7.out.m.ws
            unfold AtPost at hr7
            go_upto_region 28 with (go_at_call 38; refine hr7.mono ?_; intro e w8 hh; obtain ⟨v8, hh1, ho8, b8⟩ := hh; subst hh1; have H8 := Lib.hid (H7.out.below b8); have O8 := Lib.hid (own_lo ho8 H7.out.m.ws.below.size); clear b8 ho8 hr7 c3)
            clear H7 hrd
            have c0 := H8.out.m.ws.c0
            have hp8 := hpk.out _ H8.out.m.ws
            have hs8 := hst.out _ H8.out.m.ws
            go_wp2_with (first
              | (go_at_call 33; refine hp8.mono ?_; intro e w' hh; obtain ⟨hh1, hh2⟩ := hh; subst hh1; obtain rfl := hh2.symm; clear hp8 c0)
              | (go_at_call 42; refine hs8.mono ?_; intro e w' hh; obtain ⟨hh1, hh2⟩ := hh; subst hh1; obtain rfl := hh2.symm; clear hs8))
            go_roundw
            case rel => exact ⟨k + 1, _, _, _, _, _, _, _, _, _, _, by go_num, rfl, rfl, rfl, HK.out, H8.out, ⟨O8.out, HAL.out, fun _ => ⟨HA2.out, HE2.out, HN1.out, HNP.out⟩⟩, by rw [HXP.out]; intro c; cases c⟩
            case measure => have := HK.out; have := HSL.out; simp [intOf]; omega
          · -- not the point
            have H6b : Hid (SoB w0 w6 B q xb fb (k + 1) V2 s2 lf qs X s3) := by have := H6.out; rw [if_neg ht] at this; exact this
            have HA6b : Hid (SoA w0 w6 q X s3 A (.slice va A.length vc) ep pt) := by rw [HX.out]; exact HA6.out.lstep HO.out ht _ _ _
            have ha8 : (s2.addr == 8) = false := beq_eq_false_iff_ne.2 fun c => ht (HAD.out.1 c)
            have hl6 := hla.out _ H6b.out.m.ws
            generalize s2.kind = kd at *
            generalize s2.was = wa at *
            generalize s2.is = is_ at *
            generalize s2.addr = ad at *
            have hfd := fun W => facc14 kd ad wa is_ W
            have c0 := H6b.out.m.ws.c0
            clear ht HA6 HA H6 hla HAD
            by_cases hov : X.ph = .off
            · -- it is over
              rw [decide_eq_true hov]
              have HOV := Lib.hid hov
              clear hov
              go_upto_region 31 with (go_at_call 43; refine hl6.mono ?_; intro e w7 hh; obtain ⟨hh1, b7⟩ := hh; subst hh1; have H7 := Lib.hid (H6b.out.below b7); have HA7 := Lib.hid (HA6b.out.below b7); clear b7 hl6 c0)
              clear H6b HA6b ha8 hfd hst
              have hgt := lgotE H7.out.l
              have hfl := Lib.hid (fun (W : World) (h : LookE W w0.heap.size fb X) => lfailsE h)
              obtain ⟨r0, hr0⟩ : ∃ r0, r0 = X.got.1 := ⟨_, rfl⟩
              obtain ⟨e0, he0⟩ : ∃ e0, e0 = X.got.2.1 := ⟨_, rfl⟩
              obtain ⟨p0, hp0⟩ : ∃ p0, p0 = X.got.2.2 := ⟨_, rfl⟩
              obtain ⟨bd, hbd⟩ : ∃ bd, bd = X.bad := ⟨_, rfl⟩
              rw [← hr0, ← he0, ← hp0] at hgt
              rw [← hbd] at hfl
              have HF : Hid (bd = true ∧ r0 = 0 ∧ e0 = 0 ∧ p0 = 0 ∨ bd = false ∧ p0 = pt ∧ (pt == 0) = false ∧ e0 = ep ∧ (r0 = 0 ∧ A.length = 0 ∨ r0 ≠ 0 ∧ A.length ≠ 0 ∧ r0 ∈ A)) := by
                cases hb2 : X.bad
                · right
                  obtain ⟨o1, o2, o3⟩ := off_law H7.out.li HOV.out hb2
                  obtain ⟨g1, g2, g3, g4⟩ := HA7.out.pp (.inr (.inr (.inr (.inr ⟨HOV.out, hb2⟩))))
                  have hg : X.got = (X.ref, X.ep, X.pt) := by unfold LK.got; rw [if_pos ⟨HOV.out, hb2⟩]
                  rw [hg] at hr0 he0 hp0
                  rw [H7.out.key, ← g1] at o3
                  refine ⟨by rw [hbd, hb2], by rw [hp0, g3]; exact o2, beq_eq_false_iff_ne.2 (by omega), by rw [he0, g2]; exact o1, ?_⟩
                  rcases o3 with ⟨h1, h2⟩ | ⟨h1, h2⟩
                  · exact .inl ⟨by rw [hr0]; exact h1, by rw [h2]; rfl⟩
                  · exact .inr ⟨(by rw [hr0]; show X.ref ≠ 0; omega), (fun c => by rw [List.eq_nil_of_length_eq_zero c] at h2; cases h2), (by rw [hr0]; exact h2)⟩
                · left
                  have hg : X.got = (0, 0, 0) := by unfold LK.got; rw [if_neg (fun c => by rw [hb2] at c; cases c.2)]
                  rw [hg] at hr0 he0 hp0
                  exact ⟨by rw [hbd, hb2], hr0, he0, hp0⟩
              have hal := HA7.out.al
              clear hr0 he0 hp0 hbd HX HWR HCN HSB HN1 HNP HN0 HO HR
              go_upto_region 32 with (go_at_call 37; refine hgt.mono ?_; intro e w8 hh; obtain ⟨hh1, b8⟩ := hh; subst hh1; have H8 := Lib.hid (H7.out.below b8); have HA8 := Lib.hid (HA7.out.below b8); clear b8 hgt)
              clear H7 HA7
              have hf8 := hfl.out _ H8.out.l
              clear hfl
              have HAL := Lib.hid hal
              have hA16 : (A.length : Int) ≤ 16 := by omega
              clear hal
              obtain ⟨f0, HST, HNE⟩ : ∃ f0 : Bool, Hid (FRel f0 r0 A 0) ∧ Hid (FIn r0 A) := by
                rcases HF.out with ⟨-, h, -⟩ | ⟨-, -, -, -, ⟨h, -⟩ | ⟨h, -, h2⟩⟩
                · exact ⟨true, Lib.hid ⟨fun _ => .inl h, fun _ => rfl⟩, Lib.hid (.inl h)⟩
                · exact ⟨true, Lib.hid ⟨fun _ => .inl h, fun _ => rfl⟩, Lib.hid (.inl h)⟩
                · exact ⟨false, Lib.hid ⟨(fun c => by cases c), (fun c => by rcases c with c | c; exact absurd c h; cases c)⟩, Lib.hid (.inr h2)⟩
              have hf0 : (r0 == 0) = f0 := by
                have := HST.out
                cases f0
                · refine beq_eq_false_iff_ne.2 fun c => ?_
                  cases this.2 (.inl c)
                · refine beq_iff_eq.2 ?_
                  rcases this.1 rfl with c | c
                  · exact c
                  · cases c
              rcases HF.out with ⟨rfl, h1, rfl, rfl⟩ | ⟨rfl, rfl, h2, rfl, ⟨h3, h4⟩ | ⟨h3, h4, h5⟩⟩
              · clear HF
                obtain rfl : f0 = true := by rw [← hf0]; exact beq_iff_eq.2 h1
                subst h1
                go_upto_region 38 with (go_at_call 39; refine hf8.mono ?_; intro e w' hh; obtain ⟨hh1, hh2⟩ := hh; subst hh1; obtain rfl := hh2.symm; clear hf8)
                go_wp2_with fail
                go_loopw [15, 16] (fun v15 v16 wx => ∃ (j : Nat) (f : Bool), v15 = .bool f ∧ v16 = .int .i64 j ∧ wx = w8 ∧ j ≤ A.length ∧ FRel f 0 A j) (fun _ i _ => 1000 - (intOf i).toNat)
                case atStart => exact ⟨0, _, rfl, rfl, (by first | rfl | trivial), Nat.zero_le _, HST.out⟩
                case round =>
                  clear HST
                  obtain ⟨j, f, rfl, rfl, rfl, hj, hf⟩ := hrel
                  have hj16 : (j : Int) ≤ 16 := by omega
                  by_cases hlt2 : j < A.length
                  · have hlt3 : (j : Int) < A.length := by omega
                    have hlt4 : j < maxLen := by have := HAL.out; unfold maxLen; omega
                    have HLT := Lib.hid hlt2
                    cases f
                    · obtain ⟨g', cap', y, hv, hy, hyc, -⟩ := own_at HA8.out.a j hlt2
                      cases hv
                      have hyv : y = .int .i64 (A.getD j 0) := by
                        have : (iv A)[j]? = some (.int .i64 (A.getD j 0)) := by
                          unfold iv; rw [List.getElem?_map, List.getElem?_eq_getElem hlt2, List.getD_eq_getElem?_getD, List.getElem?_eq_getElem hlt2]; rfl
                        rw [this] at hy
                        exact (Option.some.inj hy).symm
                      subst hyv
                      obtain ⟨z, hz⟩ : ∃ z, z = A.getD j 0 := ⟨_, rfl⟩
                      rw [← hz] at hyc
                      have hnx : FRel (z == 0) 0 A (j + 1) := by
                        unfold FRel at hf ⊢
                        have e1 : A.take (j + 1) = A.take j ++ [z] := by
                          rw [hz, List.take_add_one, List.getElem?_eq_getElem hlt2, List.getD_eq_getElem?_getD, List.getElem?_eq_getElem hlt2]; rfl
                        rw [e1, List.mem_append, List.mem_singleton, ← or_assoc, ← hf, beq_iff_eq]
                        exact ⟨fun h => .inr h.symm, fun h => by rcases h with h | h; cases h; exact h.symm⟩
                      have HNX := Lib.hid hnx
                      clear hf hj hlt2 hy hz hnx
                      go_wp2_with fail
                      go_roundw
                      case rel => exact ⟨j + 1, _, rfl, by go_num, (by first | rfl | trivial), HLT.out, HNX.out⟩
                      case measure => have := HLT.out; have := HAL.out; simp [intOf]; omega
                    · have hnx : FRel true 0 A (j + 1) := by
                        refine ⟨fun _ => ?_, fun _ => rfl⟩
                        rcases hf.1 rfl with h | h
                        · exact .inl h
                        · exact .inr (by rw [List.take_add_one]; exact List.mem_append_left _ h)
                      have HNX := Lib.hid hnx
                      clear hf hj hlt2 hnx
                      go_wp2_with fail
                      go_roundw
                      case rel => exact ⟨j + 1, _, rfl, by go_num, (by first | rfl | trivial), HLT.out, HNX.out⟩
                      case measure => have := HLT.out; have := HAL.out; simp [intOf]; omega
                  · obtain rfl : j = A.length := by omega
                    have hft : f = true := by unfold FRel at hf; rw [hf, List.take_length]; exact HNE.out
                    subst hft
                    obtain ⟨-, -, -, c3, c4, -⟩ := HZF.out _ H8.out.m.ws.below
                    have hnl := HNL.out
                    clear hf hj
                    go_wp2_with (go_at_call 20; refine (hnl _).mono ?_; intro e w9 hh; obtain ⟨fb9, hh1, a9, b9⟩ := hh; subst hh1; have H9 := Lib.hid (H8.out.new b9 (by have := HTT.out; omega) a9); have HA9 := Lib.hid (HA8.out.below b9); clear a9 b9 hnl c3 c4)
                    go_roundw
                    case rel => exact ⟨k + 1, fb9, _, _, _, _, _, s3, A, _, 0, by go_num, rfl, rfl, rfl, HK.out, H9.out, HA9.out.new rfl s3 0, fun c => by cases c⟩
                    case measure => have := HK.out; have := HSL.out; simp [intOf]; omega
              · clear HF
                obtain rfl : f0 = true := by rw [← hf0]; exact beq_iff_eq.2 h3
                subst h3
                have h4i : ((A.length : Int) == 0) = true := beq_iff_eq.2 (by omega)
                have h4n : (A.length == 0) = true := beq_iff_eq.2 h4
                clear h4
                go_upto_region 38 with (go_at_call 39; refine hf8.mono ?_; intro e w' hh; obtain ⟨hh1, hh2⟩ := hh; subst hh1; obtain rfl := hh2.symm; clear hf8)
                go_wp2_with fail
                go_loopw [15, 16] (fun v15 v16 wx => ∃ (j : Nat) (f : Bool), v15 = .bool f ∧ v16 = .int .i64 j ∧ wx = w8 ∧ j ≤ A.length ∧ FRel f 0 A j) (fun _ i _ => 1000 - (intOf i).toNat)
                case atStart => exact ⟨0, _, rfl, rfl, (by first | rfl | trivial), Nat.zero_le _, HST.out⟩
                case round =>
                  clear HST
                  obtain ⟨j, f, rfl, rfl, rfl, hj, hf⟩ := hrel
                  have hj16 : (j : Int) ≤ 16 := by omega
                  by_cases hlt2 : j < A.length
                  · have hlt3 : (j : Int) < A.length := by omega
                    have hlt4 : j < maxLen := by have := HAL.out; unfold maxLen; omega
                    have HLT := Lib.hid hlt2
                    cases f
                    · obtain ⟨g', cap', y, hv, hy, hyc, -⟩ := own_at HA8.out.a j hlt2
                      cases hv
                      have hyv : y = .int .i64 (A.getD j 0) := by
                        have : (iv A)[j]? = some (.int .i64 (A.getD j 0)) := by
                          unfold iv; rw [List.getElem?_map, List.getElem?_eq_getElem hlt2, List.getD_eq_getElem?_getD, List.getElem?_eq_getElem hlt2]; rfl
                        rw [this] at hy
                        exact (Option.some.inj hy).symm
                      subst hyv
                      obtain ⟨z, hz⟩ : ∃ z, z = A.getD j 0 := ⟨_, rfl⟩
                      rw [← hz] at hyc
                      have hnx : FRel (z == 0) 0 A (j + 1) := by
                        unfold FRel at hf ⊢
                        have e1 : A.take (j + 1) = A.take j ++ [z] := by
                          rw [hz, List.take_add_one, List.getElem?_eq_getElem hlt2, List.getD_eq_getElem?_getD, List.getElem?_eq_getElem hlt2]; rfl
                        rw [e1, List.mem_append, List.mem_singleton, ← or_assoc, ← hf, beq_iff_eq]
                        exact ⟨fun h => .inr h.symm, fun h => by rcases h with h | h; cases h; exact h.symm⟩
                      have HNX := Lib.hid hnx
                      clear hf hj hlt2 hy hz hnx
                      go_wp2_with fail
                      go_roundw
                      case rel => exact ⟨j + 1, _, rfl, by go_num, (by first | rfl | trivial), HLT.out, HNX.out⟩
                      case measure => have := HLT.out; have := HAL.out; simp [intOf]; omega
                    · have hnx : FRel true 0 A (j + 1) := by
                        refine ⟨fun _ => ?_, fun _ => rfl⟩
                        rcases hf.1 rfl with h | h
                        · exact .inl h
                        · exact .inr (by rw [List.take_add_one]; exact List.mem_append_left _ h)
                      have HNX := Lib.hid hnx
                      clear hf hj hlt2 hnx
                      go_wp2_with fail
                      go_roundw
                      case rel => exact ⟨j + 1, _, rfl, by go_num, (by first | rfl | trivial), HLT.out, HNX.out⟩
                      case measure => have := HLT.out; have := HAL.out; simp [intOf]; omega
                  · obtain rfl : j = A.length := by omega
                    have hft : f = true := by unfold FRel at hf; rw [hf, List.take_length]; exact HNE.out
                    subst hft
                    obtain ⟨-, -, -, c3, c4, -⟩ := HZF.out _ H8.out.m.ws.below
                    have hnl := HNL.out
                    clear hf hj
                    go_wp2_with (go_at_call 20; refine (hnl _).mono ?_; intro e w9 hh; obtain ⟨fb9, hh1, a9, b9⟩ := hh; subst hh1; have H9 := Lib.hid (H8.out.new b9 (by have := HTT.out; omega) a9); have HA9 := Lib.hid (HA8.out.below b9); clear a9 b9 hnl c3 c4)
                    go_roundw
                    case rel => exact ⟨k + 1, fb9, _, _, _, _, _, s3, A, _, 0, by go_num, rfl, rfl, rfl, HK.out, H9.out, HA9.out.new rfl s3 0, fun c => by cases c⟩
                    case measure => have := HK.out; have := HSL.out; simp [intOf]; omega
              · clear HF
                obtain rfl : f0 = false := by rw [← hf0]; exact beq_eq_false_iff_ne.2 h3
                have h4i : ((A.length : Int) == 0) = false := beq_eq_false_iff_ne.2 (by omega)
                have h4n : (A.length == 0) = false := beq_eq_false_iff_ne.2 h4
                clear h3 h4 h5
                go_upto_region 38 with (go_at_call 39; refine hf8.mono ?_; intro e w' hh; obtain ⟨hh1, hh2⟩ := hh; subst hh1; obtain rfl := hh2.symm; clear hf8)
                go_wp2_with fail
                go_loopw [15, 16] (fun v15 v16 wx => ∃ (j : Nat) (f : Bool), v15 = .bool f ∧ v16 = .int .i64 j ∧ wx = w8 ∧ j ≤ A.length ∧ FRel f r0 A j) (fun _ i _ => 1000 - (intOf i).toNat)
                case atStart => exact ⟨0, _, rfl, rfl, (by first | rfl | trivial), Nat.zero_le _, HST.out⟩
                case round =>
                  clear HST
                  obtain ⟨j, f, rfl, rfl, rfl, hj, hf⟩ := hrel
                  have hj16 : (j : Int) ≤ 16 := by omega
                  by_cases hlt2 : j < A.length
                  · have hlt3 : (j : Int) < A.length := by omega
                    have hlt4 : j < maxLen := by have := HAL.out; unfold maxLen; omega
                    have HLT := Lib.hid hlt2
                    cases f
                    · obtain ⟨g', cap', y, hv, hy, hyc, -⟩ := own_at HA8.out.a j hlt2
                      cases hv
                      have hyv : y = .int .i64 (A.getD j 0) := by
                        have : (iv A)[j]? = some (.int .i64 (A.getD j 0)) := by
                          unfold iv; rw [List.getElem?_map, List.getElem?_eq_getElem hlt2, List.getD_eq_getElem?_getD, List.getElem?_eq_getElem hlt2]; rfl
                        rw [this] at hy
                        exact (Option.some.inj hy).symm
                      subst hyv
                      obtain ⟨z, hz⟩ : ∃ z, z = A.getD j 0 := ⟨_, rfl⟩
                      rw [← hz] at hyc
                      have hnx : FRel (z == r0) r0 A (j + 1) := by
                        unfold FRel at hf ⊢
                        have e1 : A.take (j + 1) = A.take j ++ [z] := by
                          rw [hz, List.take_add_one, List.getElem?_eq_getElem hlt2, List.getD_eq_getElem?_getD, List.getElem?_eq_getElem hlt2]; rfl
                        rw [e1, List.mem_append, List.mem_singleton, ← or_assoc, ← hf, beq_iff_eq]
                        exact ⟨fun h => .inr h.symm, fun h => by rcases h with h | h; cases h; exact h.symm⟩
                      have HNX := Lib.hid hnx
                      clear hf hj hlt2 hy hz hnx
                      go_wp2_with fail
                      go_roundw
                      case rel => exact ⟨j + 1, _, rfl, by go_num, (by first | rfl | trivial), HLT.out, HNX.out⟩
                      case measure => have := HLT.out; have := HAL.out; simp [intOf]; omega
                    · have hnx : FRel true r0 A (j + 1) := by
                        refine ⟨fun _ => ?_, fun _ => rfl⟩
                        rcases hf.1 rfl with h | h
                        · exact .inl h
                        · exact .inr (by rw [List.take_add_one]; exact List.mem_append_left _ h)
                      have HNX := Lib.hid hnx
                      clear hf hj hlt2 hnx
                      go_wp2_with fail
                      go_roundw
                      case rel => exact ⟨j + 1, _, rfl, by go_num, (by first | rfl | trivial), HLT.out, HNX.out⟩
                      case measure => have := HLT.out; have := HAL.out; simp [intOf]; omega
                  · obtain rfl : j = A.length := by omega
                    have hft : f = true := by unfold FRel at hf; rw [hf, List.take_length]; exact HNE.out
                    subst hft
                    obtain ⟨-, -, -, c3, c4, -⟩ := HZF.out _ H8.out.m.ws.below
                    have hnl := HNL.out
                    clear hf hj
                    go_wp2_with (go_at_call 20; refine (hnl _).mono ?_; intro e w9 hh; obtain ⟨fb9, hh1, a9, b9⟩ := hh; subst hh1; have H9 := Lib.hid (H8.out.new b9 (by have := HTT.out; omega) a9); have HA9 := Lib.hid (HA8.out.below b9); clear a9 b9 hnl c3 c4)
                    go_roundw
                    case rel => exact ⟨k + 1, fb9, _, _, _, _, _, s3, A, _, 0, by go_num, rfl, rfl, rfl, HK.out, H9.out, HA9.out.new rfl s3 0, fun c => by cases c⟩
                    case measure => have := HK.out; have := HSL.out; simp [intOf]; omega
            · -- it goes on
              rw [decide_eq_false hov]
              have HOV := Lib.hid hov
              clear hov
              go_wp2_with (go_at_call 43; refine hl6.mono ?_; intro e w7 hh; obtain ⟨hh1, b7⟩ := hh; subst hh1; have H7 := Lib.hid (H6b.out.below b7); have HA7 := Lib.hid (HA6b.out.below b7); clear b7 hl6 c0)
              go_roundw
              case rel => exact ⟨k + 1, _, _, _, _, _, _, _, _, _, _, by go_num, rfl, rfl, rfl, HK.out, H7.out, HA7.out, HOV.out⟩
              case measure => have := HK.out; have := HSL.out; simp [intOf]; omega
    · obtain rfl : k = q.steps.length := by omega
      clear c3 c4 hlt hk
      go_wp2_with (go_at_call 19; refine (lives14 _).mono ?_; rintro e w6 ⟨rfl, b6⟩)
      go_ret
      have h1 := HBB.out.trans (HR.out.m.ws.below.mono HBB.out.size)
      exact ⟨rfl, h1.trans (b6.mono h1.size)⟩
set_option maxRecDepth 10000 in
theorem walkLooksSo {H1 : Type} (w : World) (enc : TypeId × Value → H1) (base : Nat) (v : Value) (d : DataW H1) (p : List MemPlace) (k : DataW.Trod enc Tryz.prog w 0 (fun _ => true) true 83 v d p) (o : Value.okWide Tryz.prog w .any base 83 v) :
    Calls Tryz.prog 6 #[v] w fun e w' => e = .returned (.bool true) ∧ Below w.heap.size w w' := by
  obtain ⟨q, rfl, hr, hk⟩ := rdg_openK k o
  exact lso_any q w hr hk
end Go.Proofs.YtdbgfidnccpmdaaGreat
