/-
  Texts of this prover, merged: RefLook8, RefLook9, LookPo, LookPoS, LookSame, LookPoN, LkActs, Grows, GrowDo, GrowLives, LookLives.
-/
import Derived.Test.YtmakjfeepmiggaaGreatK1
import Derived.Test.YtmakjfeepmiggaaGreatK2
import Derived.Test.YtmakjfeepmiggaaGreatP2
import Derived.Test.YtmakjfeepmiggaaGreatOpen
import Derived.Test.YtmakjfeepmiggaaGreatP1
import Derived.Maps.AppendAt
import Derived.Deep.AppendLies
/-
  LooksPlay: a Look of both sides, in plain words: what is so of both; behind a step it is so again.
-/
namespace Go.Proofs.YtmakjfeepmiggaaGreat
open Go.RowKit Go.Maps TagPure
set_option linter.unusedVariables false

def RL.first (x : RL) (v : Int) : RL := { x with t := v, l := plist (hashOf x.key) v, s := vof (plist (hashOf x.key) v), was := [], line := 2 }
def RL.saw (x : RL) (v : Int) : RL := { x with was := x.was ++ [v] }
def RL.second (x : RL) (v : Int) : RL := if v % 2 = 1 then (x.saw v).again else if x.was.length + 1 = x.s.length then { x.saw v with line := 3 } else x.saw v
def rseV (V : WV) (c : Int) (x : RL) (v : Int) : WV := if v % 2 = 1 then ragV V c (x.saw v) else V
/-- What is known of both, between the first line and the end. -/
structure LMd (x : LK) (y : RL) : Prop where
  tab : x.tab = y.t
  al : x.all = y.l
  pl : y.l.length ≤ 4
  s : y.s = x.vs.map Prod.fst
  bad : x.bad = false
  fails : y.fails = false
  ref : x.ref = y.ref
structure LRel (x : LK) (y : RL) : Prop where
  key : y.key = x.key
  h : x.h = hashOf x.key
  tr : -9223372036854775808 ≤ y.tries ∧ y.tries < 9223372036854775808
  left : x.left = if y.tries ≤ 0 then 0 else y.tries
  tags : 0 ≤ y.tags ∧ y.tags < 18446744073709551616
  cs : (x.ph = .fst ∧ y.line = 1 ∧ x.bad = false ∧ y.fails = false ∧ y.ref = 0)
    ∨ (x.ph = .snd ∧ y.line = 2 ∧ LMd x y ∧ y.was = (x.vs.take x.at_).map Prod.snd)
    ∨ (x.ph = .thd ∧ y.line = 3 ∧ LMd x y ∧ y.was = x.vs.map Prod.snd)
    ∨ (x.ph = .tag ∧ y.line = 4 ∧ LMd x y ∧ y.was = x.vs.map Prod.snd ∧ y.at_ = x.at_ ∧ y.slot = 4 ∧ y.ep = x.ep ∧ y.pt = x.pt)
    ∨ (x.ph = .itm ∧ y.line = 4 ∧ LMd x y ∧ y.was = x.vs.map Prod.snd ∧ y.at_ = x.at_ ∧ (∃ n : Nat, n < 4 ∧ y.slot = n ∧ x.sl = n :: hasL y.tags (tag01 (hashOf x.key)) (n + 1) (4 - (n + 1))) ∧ y.ep = x.ep ∧ y.pt = x.pt)
    ∨ (x.ph = .fif ∧ y.line = 5 ∧ LMd x y ∧ y.was = x.vs.map Prod.snd ∧ y.ep = x.ep ∧ y.pt = x.pt)
    ∨ (x.ph = .six ∧ y.line = 6 ∧ LMd x y ∧ y.was = x.vs.map Prod.snd ∧ y.at_ = x.at_ ∧ y.ep = x.ep ∧ y.pt = x.pt)
    ∨ (x.ph = .off ∧ y.line = 0 ∧ x.bad = y.fails ∧ (x.bad = false → x.ref = y.ref ∧ y.ep = x.ep ∧ y.pt = x.pt))
theorem hasL_head {tags T : Int} : ∀ {m n i : Nat} {r : List Nat}, hasL tags T n m = i :: r → n ≤ i ∧ i < n + m ∧ r = hasL tags T (i + 1) (n + m - (i + 1)) := by
  intro m
  induction m with
  | zero => intro n i r h; cases h
  | succ m ih =>
    intro n i r h
    unfold hasL at h
    split at h
    · simp only [List.cons.injEq] at h
      obtain ⟨rfl, rfl⟩ := h
      exact ⟨Nat.le_refl _, by omega, by rw [show n + (m + 1) - (n + 1) = m by omega]⟩
    · obtain ⟨h1, h2, h3⟩ := ih h
      exact ⟨by omega, by omega, by rw [h3, show n + 1 + m - (i + 1) = n + (m + 1) - (i + 1) by omega]⟩
section
variable {x : LK} {y : RL}
theorem lrel_again (hk : y.key = x.key) (hh : x.h = hashOf x.key) (ht : -9223372036854775808 ≤ y.tries ∧ y.tries < 9223372036854775808) (hl : x.left = if y.tries ≤ 0 then 0 else y.tries) (htg : 0 ≤ y.tags ∧ y.tags < 18446744073709551616) (hb : x.bad = false) (hf : y.fails = false) : LRel x.again y.again := by
  unfold LK.again RL.again
  by_cases h0 : y.tries ≤ 0
  · rw [if_pos h0] at hl
    rw [if_pos hl, if_pos h0]
    exact ⟨hk, hh, ht, by show x.left = _; rw [if_pos h0]; exact hl, htg, .inr (.inr (.inr (.inr (.inr (.inr (.inr ⟨rfl, rfl, rfl, fun c => by cases c⟩))))))⟩
  · rw [if_neg h0] at hl
    rw [if_neg (by omega), if_neg h0]
    refine ⟨hk, hh, by show -9223372036854775808 ≤ y.tries - 1 ∧ y.tries - 1 < 9223372036854775808; omega, ?_, htg, .inl ⟨rfl, rfl, hb, hf, rfl⟩⟩
    show x.left - 1 = if y.tries - 1 ≤ 0 then 0 else y.tries - 1
    split <;> omega
theorem lrel_agV {V : WV} {s : CS} {c : Int} (hl : x.left = if y.tries ≤ 0 then 0 else y.tries) (hc : (s.cnt : Int) = c) : ragV V c y = agV V s x := by
  unfold ragV agV
  by_cases h0 : y.tries ≤ 0
  · rw [if_pos h0] at hl
    rw [if_pos h0, if_pos hl]
  · rw [if_neg h0] at hl
    rw [if_neg h0, if_neg (by omega), hl, hc]
/-- Behind 'next'. -/
theorem lrel_nx (hk : y.key = x.key) (hh : x.h = hashOf x.key) (ht : -9223372036854775808 ≤ y.tries ∧ y.tries < 9223372036854775808) (hlf : x.left = if y.tries ≤ 0 then 0 else y.tries) (htg : 0 ≤ y.tags ∧ y.tags < 18446744073709551616)
    (hm : LMd x y) (hw : y.was = x.vs.map Prod.snd) (ha : y.at_ = x.at_) (he : y.ep = x.ep) (hp : y.pt = x.pt) (h4 : y.line = 4) (hat : x.at_ < x.all.length) (frm : Nat) (hf : frm ≤ 4) (hsl : x.sl = hasL y.tags (tag01 (hashOf x.key)) frm (4 - frm)) : LRel x.on (y.nx frm) := by
  obtain ⟨m1, m2, m3, m4, m5, m6, m7⟩ := hm
  unfold RL.nx LK.on
  rw [hk, ← hsl]
  cases hc : x.sl with
  | nil =>
    rw [if_pos rfl]
    by_cases hlt : x.at_ + 1 < x.all.length
    · rw [if_pos hlt]
      refine ⟨hk, hh, ht, hlf, htg, .inr (.inr (.inr (.inl ⟨rfl, ?_, ⟨m1, m2, m3, m4, m5, m6, m7⟩, hw, ?_, rfl, he, hp⟩)))⟩
      · show (if y.l.length ≤ y.at_ + 1 then 5 else y.line) = 4
        rw [if_neg (by rw [← m2, ha]; omega)]; exact h4
      · show y.at_ + 1 = x.at_ + 1
        rw [ha]
    · rw [if_neg hlt]
      refine ⟨hk, hh, ht, hlf, htg, .inr (.inr (.inr (.inr (.inr (.inl ⟨rfl, ?_, ⟨m1, m2, m3, m4, m5, m6, m7⟩, hw, he, hp⟩)))))⟩
      show (if y.l.length ≤ y.at_ + 1 then 5 else y.line) = 5
      rw [if_pos (by rw [← m2, ha]; omega)]
  | cons n r =>
    rw [if_neg (by simp)]
    rw [hc] at hsl
    obtain ⟨h3, h4', h5⟩ := hasL_head hsl.symm
    refine ⟨hk, hh, ht, hlf, htg, .inr (.inr (.inr (.inr (.inl ⟨rfl, h4, ⟨m1, m2, m3, m4, m5, m6, m7⟩, hw, ha, ⟨n, by omega, rfl, ?_⟩, he, hp⟩))))⟩
    show (n :: r : List Nat) = n :: hasL y.tags (tag01 (hashOf x.key)) (n + 1) (4 - (n + 1))
    rw [h5, show frm + (4 - frm) - (n + 1) = 4 - (n + 1) by omega]
/-- The document's Look behind a step. -/
def RL.stp (its : List Itm) (s : CS) (x : LK) (y : RL) : RL := match x.ph with
  | .fst => y.first (s.val 2)
  | .snd => y.second (s.val (x.vs.getD x.at_ (0, 0)).1)
  | .thd => y.third (s.val 8) ((s.acc 1 8 (s.val 8)).cnt : Int)
  | .tag => y.tag (s.val (tagsA (x.all.getD x.at_ (0, 0)).1 (x.all.getD x.at_ (0, 0)).2))
  | .itm => RL.itm its y (x.sl.headD 0) (s.val (itemA (x.all.getD x.at_ (0, 0)).1 (x.all.getD x.at_ (0, 0)).2 (x.sl.headD 0 : Nat)))
  | .fif => y.fifth (s.val 2)
  | .six => y.sixth (x.vs.getD x.at_ (0, 0)).2 (s.val (x.vs.getD x.at_ (0, 0)).1)
  | .off => y
theorem map_set {α β : Type} (f : α → β) (l : List α) (i : Nat) (a : α) : (l.set i a).map f = (l.map f).set i (f a) := by
  induction l generalizing i with
  | nil => rfl
  | cons b l ih => cases i with
    | zero => rfl
    | succ i => simp only [List.set_cons_succ, List.map_cons, ih]
theorem seen_fst (x : LK) (hk : x.at_ < x.vs.length) (v : Int) : (x.seen v).vs.map Prod.fst = x.vs.map Prod.fst := by
  show (x.vs.set x.at_ ((x.vs.getD x.at_ (0, 0)).1, v)).map Prod.fst = _
  rw [map_set]
  refine List.ext_getElem (by simp) fun i h1 h2 => ?_
  rw [List.getElem_set]
  split
  · rename_i e; subst e
    simp only [List.getElem_map]
    rw [List.getD_eq_getElem?_getD, List.getElem?_eq_getElem hk]; rfl
  · rfl
theorem seen_snd (x : LK) (hk : x.at_ < x.vs.length) (v : Int) : ((x.seen v).vs.take (x.at_ + 1)).map Prod.snd = (x.vs.take x.at_).map Prod.snd ++ [v] := by
  show ((x.vs.set x.at_ ((x.vs.getD x.at_ (0, 0)).1, v)).take (x.at_ + 1)).map Prod.snd = _
  rw [List.take_add_one, List.map_append, List.take_set_of_le (Nat.le_refl _)]
  congr 1
  rw [List.getElem?_set_self hk]
  rfl
theorem LMd.of {x x' : LK} {y y' : RL} (h : LMd x y) (h1 : x'.tab = x.tab) (h2 : x'.all = x.all) (h3 : x'.vs.map Prod.fst = x.vs.map Prod.fst) (h4 : x'.bad = x.bad) (h5 : x'.ref = x.ref) (k1 : y'.t = y.t) (k2 : y'.l = y.l) (k3 : y'.s = y.s) (k4 : y'.fails = y.fails) (k5 : y'.ref = y.ref) : LMd x' y' :=
  ⟨by rw [h1, k1]; exact h.tab, by rw [h2, k2]; exact h.al, by rw [k2]; exact h.pl, by rw [h3, k3]; exact h.s, by rw [h4]; exact h.bad, by rw [k4]; exact h.fails, by rw [h5, k5]; exact h.ref⟩
theorem lrel_step {its : List Itm} {s : CS} (h : LRel x y) (ho : LOk x) (hv : ∀ a, 0 ≤ s.val a ∧ s.val a < 18446744073709551616) (vb : Nat) : LRel (lnX its s x vb) (y.stp its s x) := by
  have hk := h.key; have hh := h.h
  rcases h.cs with ⟨p, l, e1, e2, e3⟩ | ⟨p, l, m, e1⟩ | ⟨p, l, m, e1⟩ | ⟨p, l, m, e1, e2, e3, e4, e5⟩ | ⟨p, l, m, e1, e2, ⟨n, hn, e3, e4⟩, e5, e6⟩ | ⟨p, l, m, e1, e2, e3⟩ | ⟨p, l, m, e1, e2, e3, e4⟩ | ⟨p, l, e1, e2⟩
  · unfold lnX RL.stp; rw [p]; simp only
    refine ⟨hk, hh, h.tr, h.left, h.tags, .inr (.inl ⟨rfl, rfl, ⟨rfl, ?_, plist_len _ _, ?_, e1, e2, e3.symm⟩, rfl⟩)⟩
    · show plist x.h _ = plist (hashOf y.key) _
      rw [hk, hh]
    · show vof (plist (hashOf y.key) _) = (vers (vof (plist x.h _))).map Prod.fst
      rw [hk, hh]
      unfold vers
      rw [List.map_map]
      exact (List.map_id _).symm
  · unfold lnX RL.stp; rw [p]; simp only
    have hat := ho.atv (.inl p)
    obtain ⟨v, hvv⟩ : ∃ v, v = s.val (x.vs.getD x.at_ (0, 0)).1 := ⟨_, rfl⟩
    rw [← hvv]
    have hmd : LMd (x.seen v) (y.saw v) := m.of rfl rfl (seen_fst x hat v) rfl rfl rfl rfl rfl rfl rfl
    have hwas : (y.saw v).was = ((x.seen v).vs.take (x.at_ + 1)).map Prod.snd := by rw [seen_snd x hat v, ← e1]; rfl
    have hwl : y.was.length = x.at_ := by rw [e1, List.length_map, List.length_take]; omega
    have hsl : y.s.length = x.vs.length := by rw [m.s, List.length_map]
    have hvl : (x.seen v).vs.length = x.vs.length := by show (x.vs.set _ _).length = _; rw [List.length_set]
    unfold LK.second RL.second
    by_cases hodd : v % 2 = 1
    · rw [if_pos hodd, if_pos hodd]
      exact lrel_again (x := x.seen v) (y := y.saw v) hk hh h.tr h.left h.tags m.bad m.fails
    · rw [if_neg hodd, if_neg hodd]
      by_cases hend : x.at_ + 1 = x.vs.length
      · rw [if_pos hend, if_pos (by omega)]
        refine ⟨hk, hh, h.tr, h.left, h.tags, .inr (.inr (.inl ⟨rfl, rfl, hmd.of rfl rfl rfl rfl rfl rfl rfl rfl rfl rfl, ?_⟩))⟩
        show (y.saw v).was = (x.seen v).vs.map Prod.snd
        rw [hwas, List.take_of_length_le (by omega)]
      · rw [if_neg hend, if_neg (by omega)]
        exact ⟨hk, hh, h.tr, h.left, h.tags, .inr (.inl ⟨p, l, hmd.of rfl rfl rfl rfl rfl rfl rfl rfl rfl rfl, hwas⟩)⟩
  · unfold lnX RL.stp; rw [p]; simp only
    exact ⟨hk, hh, h.tr, h.left, h.tags, .inr (.inr (.inr (.inl ⟨rfl, rfl, m.of rfl rfl rfl rfl rfl rfl rfl rfl rfl rfl, e1, rfl, rfl, rfl, rfl⟩)))⟩
  · unfold lnX RL.stp; rw [p]; simp only
    have hat := ho.ata (.inl p)
    obtain ⟨v, hvv⟩ : ∃ v, v = s.val (tagsA (x.all.getD x.at_ (0, 0)).1 (x.all.getD x.at_ (0, 0)).2) := ⟨_, rfl⟩
    have hvb := hv (tagsA (x.all.getD x.at_ (0, 0)).1 (x.all.getD x.at_ (0, 0)).2)
    rw [← hvv] at hvb ⊢
    unfold RL.tag
    exact lrel_nx (x := { x with sl := has v (tag01 x.h) 4 }) (y := { y with tags := v }) hk hh h.tr h.left hvb (m.of rfl rfl rfl rfl rfl rfl rfl rfl rfl rfl) e1 e2 e4 e5 l hat 0 (by decide) (by show has v (tag01 x.h) 4 = _; rw [has_hasL, hh])
  · unfold lnX RL.stp; rw [p]; simp only
    have hat := ho.ata (.inr p)
    have hd : x.sl.headD 0 = n := by rw [e4]; rfl
    rw [hd]
    obtain ⟨v, hvv⟩ : ∃ v, v = s.val (itemA (x.all.getD x.at_ (0, 0)).1 (x.all.getD x.at_ (0, 0)).2 n) := ⟨_, rfl⟩
    rw [← hvv]
    unfold LK.item RL.itm
    rw [hk]
    split
    · refine ⟨rfl, hh, h.tr, h.left, h.tags, .inr (.inr (.inr (.inr (.inr (.inl ⟨rfl, rfl, ⟨m.tab, m.al, m.pl, m.s, m.bad, m.fails, rfl⟩, e1, e5, e6⟩)))))⟩
    · refine lrel_nx (x := { x with sl := x.sl.tail }) hk hh h.tr h.left h.tags (m.of rfl rfl rfl rfl rfl rfl rfl rfl rfl rfl) e1 e2 e5 e6 l hat (n + 1) (by omega) ?_
      show x.sl.tail = _
      rw [e4]; rfl
  · unfold lnX RL.stp; rw [p]; simp only
    unfold LK.fifth RL.fifth
    rw [m.tab]
    split
    · exact ⟨hk, hh, h.tr, h.left, h.tags, .inr (.inr (.inr (.inr (.inr (.inr (.inl ⟨rfl, rfl, ⟨rfl, m.al, m.pl, m.s, m.bad, m.fails, m.ref⟩, e1, rfl, e2, e3⟩))))))⟩
    · exact lrel_again (x := x) (y := { y with line := 6, at_ := 0 }) hk hh h.tr h.left h.tags m.bad m.fails
  · unfold lnX RL.stp; rw [p]; simp only
    have hsl : y.s.length = x.vs.length := by rw [m.s, List.length_map]
    unfold LK.sixth RL.sixth
    rw [e2, hsl]
    split
    · split
      · exact ⟨hk, hh, h.tr, h.left, h.tags, .inr (.inr (.inr (.inr (.inr (.inr (.inr ⟨rfl, rfl, m.bad.trans m.fails.symm, fun _ => ⟨m.ref, e3, e4⟩⟩))))))⟩
      · exact ⟨hk, hh, h.tr, h.left, h.tags, .inr (.inr (.inr (.inr (.inr (.inr (.inl ⟨p, l, m.of rfl rfl rfl rfl rfl rfl rfl rfl rfl rfl, e1, rfl, e3, e4⟩))))))⟩
    · exact lrel_again hk hh h.tr h.left h.tags m.bad m.fails
  · unfold lnX RL.stp; rw [p]; simp only
    exact h
end
end Go.Proofs.YtmakjfeepmiggaaGreat

/-
  Layer 14: the document's Look: a step at lines 1 and 2.
-/
namespace Go.Proofs.YtmakjfeepmiggaaGreat
open Go.RowKit Go.Maps TagPure
set_option linter.unusedVariables false

theorem own_loL {w : World} {lo lo' e size n : Nat} {v : Value} {xs : List Value} (h : w.ownsRow lo e size v n xs) (hl : lo' ≤ lo) : w.ownsRow lo' e size v n xs := by
  obtain ⟨c1, c2 | ⟨g, cap, cur, hv, hb, r⟩⟩ := h
  · exact ⟨c1, .inl c2⟩
  · exact ⟨c1, .inr ⟨g, cap, cur, hv, Nat.le_trans hl hb, r⟩⟩
/-- A frame: of the old blocks only such of the document's world, and two, have turned. -/
structure Fq (b c : Nat) (w w' : World) : Prop where
  size : w.heap.size ≤ w'.heap.size
  cells : ∀ (k : Nat) (cs : Array Value) (T : TypeId) (fr : Nat × Nat), w.heap[k]? = some (.cells cs T fr) → rTy T = false → k ≠ b → k ≠ c → w'.heap[k]? = some (.cells cs T fr)
  map : ∀ (k : Nat) (es : Array MapEntry) (cl : Nat), w.heap[k]? = some (.map es cl) → w'.heap[k]? = some (.map es cl)
theorem Fq.trans {b c : Nat} {w w' w'' : World} (h : Fq b c w w') (k : Fq b c w' w'') : Fq b c w w'' :=
  ⟨Nat.le_trans h.size k.size, fun i cs T fr h1 h2 h3 h4 => k.cells i cs T fr (h.cells i cs T fr h1 h2 h3 h4) h2 h3 h4, fun i es cl h1 => k.map i es cl (h.map i es cl h1)⟩
theorem fq_fr {w w' : World} (h : Fr rTy false w w') (b c : Nat) : Fq b c w w' := ⟨h.size, fun k cs T fr h1 h2 _ _ => h.cells k cs T fr h1 h2, fun k es cl h1 => h.map rfl k es cl h1⟩
theorem fq_below {w w' : World} (h : Below w.heap.size w w') (b c : Nat) : Fq b c w w' := fq_fr (below_fr h rTy false) b c
theorem fq_fx {b c : Nat} {w w' : World} {cs : Array Value} {T : TypeId} {fr : Nat × Nat} (h : Fx rTy false b w w') (hb : w.heap[b]? = some (.cells cs T fr)) : Fq b c w w' := ⟨h.size, fun k cs T fr h1 h2 h3 _ => h.cells k cs T fr h1 h2 h3, fun k es cl h1 => h.map rfl k es cl h1 (fun e => by subst e; rw [hb] at h1; cases h1)⟩
section
variable {w w' : World} {lo lo' fb kb : Nat} {x : RL}
theorem RLookAt.setl (h : RLookAt w lo fb kb x) {v : Value} {l : List (Int × Int)} (hp : PlR w lo v l) : RLookAt (w.setCell ⟨fb, 8, none⟩ v) lo fb kb { x with l := l } := by
  obtain ⟨l0, vl, vs, vw, b1, b2, b3, b4, b5⟩ := h
  have sf := set_ty b1 8 v
  exact ⟨l0, v, vs, vw, setCell_same b1 8 v, own_fr hp sf rfl, own_fr b3 sf rfl, own_fr b4 sf rfl, b5⟩
theorem RLookAt.sets (h : RLookAt w lo fb kb x) {v : Value} {l : List Int} (hp : w.ownsRow lo 39 1 v l.length (cu l)) : RLookAt (w.setCell ⟨fb, 9, none⟩ v) lo fb kb { x with s := l } := by
  obtain ⟨l0, vl, vs, vw, b1, b2, b3, b4, b5⟩ := h
  have sf := set_ty b1 9 v
  exact ⟨l0, vl, v, vw, setCell_same b1 9 v, own_fr b2 sf rfl, own_fr hp sf rfl, own_fr b4 sf rfl, b5⟩
theorem RLookAt.setn (h : RLookAt w lo fb kb x) : RLookAt (w.setCell ⟨fb, 10, none⟩ (.slice none 0 0)) lo fb fb { x with was := [] } := by
  obtain ⟨l0, vl, vs, vw, b1, b2, b3, b4, b5⟩ := h
  have sf := set_ty b1 10 (.slice none 0 0)
  exact ⟨l0, vl, vs, .slice none 0 0, setCell_same b1 10 _, own_fr b2 sf rfl, own_fr b3 sf rfl, World.ownsRow_nil _ _ _ _, .inr ⟨rfl, rfl⟩⟩
theorem RLookAt.plc (h : RLookAt w lo fb kb x) : ∃ a c, w.cell? ⟨fb, 8, none⟩ = some (.slice a x.l.length c) ∧ Plc w a c x.l := by
  obtain ⟨l0, vl, vs, vw, b1, b2, b3, b4, b5⟩ := h
  obtain ⟨a, c, rfl, -, hc⟩ := b2.read
  refine ⟨a, c, hcell b1 8, ?_⟩
  obtain ⟨h1, ⟨hv, h0⟩ | ⟨g, cap, cur, hv, hb, hg, hn, hm, hs, ht⟩⟩ := b2
  · simp only [Value.slice.injEq] at hv
    obtain ⟨rfl, h2, rfl⟩ := hv
    exact ⟨by omega, Nat.zero_le _, fun _ => rfl, .inl (List.eq_nil_of_length_eq_zero h2)⟩
  · simp only [Value.slice.injEq, true_and] at hv
    obtain ⟨rfl, rfl⟩ := hv
    refine ⟨hn, hm, fun e => (by cases e), ?_⟩
    by_cases h0 : x.l.length = 0
    · exact .inl (List.eq_nil_of_length_eq_zero h0)
    · obtain ⟨g2, e2, -, h2⟩ := hc (by omega)
      cases e2
      exact .inr ⟨g, 0, rfl, fun i hi => by rw [Nat.zero_add]; exact h2 i hi⟩
end
section
variable {w0 w W W' : World} {R : WB} {V V' : WV} {xr xr' : RS} {fb kb : Nat} {x y : RL}
theorem RLB.setl (h : RLB w0 w W R V xr fb kb x) {v : Value} {l : List (Int × Int)} (hp : PlR W w0.heap.size v l) : RLB w0 w (W.setCell ⟨fb, 8, none⟩ v) R V xr fb kb { x with l := l } := by
  obtain ⟨cs, b1⟩ := h.lk.blk
  exact ⟨rd_setL h.rd b1 rfl h.lk.low v, h.lk.setl hp, h.fx.trans (set_fx rTy false W fb 8 v)⟩
theorem RLB.sets (h : RLB w0 w W R V xr fb kb x) {v : Value} {l : List Int} (hp : W.ownsRow w0.heap.size 39 1 v l.length (cu l)) : RLB w0 w (W.setCell ⟨fb, 9, none⟩ v) R V xr fb kb { x with s := l } := by
  obtain ⟨cs, b1⟩ := h.lk.blk
  exact ⟨rd_setL h.rd b1 rfl h.lk.low v, h.lk.sets hp, h.fx.trans (set_fx rTy false W fb 9 v)⟩
theorem RLB.setn (h : RLB w0 w W R V xr fb kb x) : RLB w0 w (W.setCell ⟨fb, 10, none⟩ (.slice none 0 0)) R V xr fb fb { x with was := [] } := by
  obtain ⟨cs, b1⟩ := h.lk.blk
  exact ⟨rd_setL h.rd b1 rfl h.lk.low _, h.lk.setn, h.fx.trans (set_fx rTy false W fb 10 _)⟩
end
abbrev TPl14 (fb : Nat) (key : ByteArray) (t : Int) (W : World) : Prop := W.cell? ⟨fb, 5, none⟩ = some (.string key) ∧ W.cell? ⟨fb, 7, none⟩ = some (.int .u64 t)
set_option maxRecDepth 10000 in
set_option maxHeartbeats 4000000 in
theorem rlstep1 {w0 w : World} {R : WB} {V : WV} {xr : RS} {fb kb : Nat} {x : RL} (h : RD w0 w R V xr) (hr : xr.room) (hx : RLookAt w w0.heap.size fb kb x) (hk : x.key.size ≤ 1000000) (h1 : x.line = 1) (v : Int) (hv : v = rlook xr.l 2) (hvb : 0 ≤ v ∧ v < 18446744073709551616) :
    Calls Tryz.prog 30 #[.pointer (some ⟨fb, 0, none⟩), .pointer (some ⟨R.wb, 0, none⟩)] w fun e w' => e = .returned (.tuple #[]) ∧ RLB w0 w w' R V (xr.acc 1 2 v) fb fb (x.first v) := by
  have hB : RLB w0 w w R V xr fb kb x := ⟨h, hx, (below_fr (Below.refl _ _) rTy false).fx fb⟩
  have hld := rwload h hr 2 (by decide)
  rw [← hv] at hld
  have c0 := hx.c.c0
  rw [h1] at c0
  have HB := Lib.hid hB; have HK := Lib.hid hk; have HVB := Lib.hid hvb
  clear hB h hr hx hk h1 hv hvb
  go_enter Tryz.func30, Tryz.ntmps30
  go_upto_region 3 with (go_at_call 55; refine hld.mono ?_; intro e w2 hh; obtain ⟨hh1, h2, f2⟩ := hh; subst hh1; have HB2 := Lib.hid (HB.out.move h2 f2); have c7 := HB2.out.lk.c.c7; have f7 := HB2.out.lk.f 7; clear h2 f2 hld c0)
  have HB3 := Lib.hid (HB2.out.set (y := { x with t := v }) 7 (.int .u64 v) rfl rfl rfl (fun _ _ _ => rfl))
  clear c7 f7 HB2
  generalize w2.setCell ⟨fb, 7, none⟩ (.int .u64 v) = w3 at *
  have HB4 := Lib.hid (HB3.out.below (Below.refl w3.heap.size w3).drew)
  have ss : TPl14 fb x.key v w3.drew := ⟨HB4.out.lk.c.c5, HB4.out.lk.c.c7⟩
  have hh := hfold_bd x.key x.key.size
  have hpl := fun W => rplaces_eq (hashOf x.key) v hh.1 hh.2 HVB.out.1 HVB.out.2 W
  have hHS := fun W => rhash_eq x.key HK.out W
  obtain ⟨L, hL⟩ : ∃ L, L = plist (hashOf x.key) v := ⟨_, rfl⟩
  rw [← hL] at hpl
  have HL := Lib.hid hL; have HPL := Lib.hid hpl
  clear hh hpl hL HB3
  go_region_held2 (fun W => TPl14 fb x.key v W) (assumption) (first
    | (go_at_call 87; refine (hHS _).mono ?_; intro e w5 hh; obtain ⟨hh1, hh2⟩ := hh; subst hh1; obtain rfl := hh2.symm; clear hHS)
    | (go_at_call 86; refine (HPL.out _).mono ?_; intro e w6 hh; obtain ⟨pv, hh1, hp, b6⟩ := hh; subst hh1; obtain ⟨pa, pc, hpv, -⟩ := hp.read; subst hpv; have HB6 := Lib.hid (HB4.out.below b6); obtain ⟨al, cl, d8⟩ := HB6.out.lk.c.c8; have f8 := HB6.out.lk.f 8; have s6 : TPl14 fb x.key v w6 := ⟨HB6.out.lk.c.c5, HB6.out.lk.c.c7⟩; have HB7 := Lib.hid (HB6.out.setl (own_loL hp HB4.out.rd.below.size)); have s7 : TPl14 fb x.key v (w6.setCell ⟨fb, 8, none⟩ (.slice pa L.length pc)) := ⟨HB7.out.lk.c.c5, HB7.out.lk.c.c7⟩; clear b6 hp ss))
  clear s6 s7 d8 f8 HB6 HB4
  generalize w6.setCell ⟨fb, 8, none⟩ (.slice pa L.length pc) = w7 at *
  obtain ⟨a8, k8, c8, hplc⟩ := HB7.out.lk.plc
  have c8 : w7.cell? ⟨fb, 8, none⟩ = some (.slice a8 L.length k8) := c8
  have hof := rof_any L a8 k8 w7 hplc (by rw [HL.out]; have := plist_len (hashOf x.key) v; omega)
  clear hplc
  go_upto_region 5 with (go_at_call 103; refine hof.mono ?_; intro e w8 hh; obtain ⟨v9, hh1, hown, b8⟩ := hh; subst hh1; obtain ⟨a9, k9, rfl⟩ := own_sl2 hown; have HB8 := Lib.hid (HB7.out.below b8); have HOW := Lib.hid (own_loL hown HB7.out.rd.below.size); obtain ⟨al9, cl9, c9⟩ := HB8.out.lk.c.c9; have f9 := HB8.out.lk.f 9; clear hown b8 hof c8)
  have HB9 := Lib.hid (HB8.out.sets HOW.out)
  clear c9 f9 HB8 HOW HB7
  generalize w8.setCell ⟨fb, 9, none⟩ (.slice a9 (vof L).length k9) = w9 at *
  obtain ⟨al10, cl10, c10⟩ := HB9.out.lk.c.c10
  have c0 := HB9.out.lk.c.c0
  have f := HB9.out.lk.f
  have HB10 := Lib.hid (HB9.out.setn.set (y := { x with t := v, l := L, s := vof L, was := [], line := 2 }) 0 (.int .i64 2) rfl rfl rfl (fun _ _ _ => rfl))
  go_wp2_with (fail)
  go_end0
  refine ⟨rfl, ?_⟩
  have e : x.first v = { x with t := v, l := L, s := vof L, was := [], line := 2 } := by unfold RL.first; rw [HL.out]
  rw [e]
  exact HB10.out
theorem info_u64 : (Tryz.prog.info? 38).map (fun i => (i.zero, i.size, i.bytes)) = some (some (.int .u64 0), 1, 8) := by kernel_rfl
/-- Behind an append of what was seen. -/
theorem rlsaw {w0 w W W5 : World} {R : WB} {V : WV} {xr : RS} {fb kb : Nat} {x : RL} {C : Array Value} {vw v' : Value} {v : Int} (hB : RLB w0 w W R V xr fb kb x) (hbw : ∃ cs, w.heap[fb]? = some (.cells cs 93 (0, 0))) (hc : W.cell? ⟨fb, 10, none⟩ = some vw)
    (hown : W5.ownsRow w0.heap.size 38 1 v' (x.was.length + 1) (cu x.was ++ [.int .u64 v])) (hgr : (W.alloc (.cells C 38)).grownBy W5 vw.ownBlock) (hob : v'.ownBlock = vw.ownBlock ∨ v'.ownBlock = some (W.alloc (.cells C 38)).heap.size) :
    ∃ kb', RD w0 (W5.setCell ⟨fb, 10, none⟩ v') R V xr ∧ RLookAt (W5.setCell ⟨fb, 10, none⟩ v') w0.heap.size fb kb' (x.saw v) ∧ (kb' = kb ∨ w.heap.size ≤ kb') ∧ Fq fb kb w (W5.setCell ⟨fb, 10, none⟩ v') := by
  obtain ⟨hrd, ⟨l0, vl, vs, vw2, b1, b2, b3, b4, b5⟩, hfx⟩ := hB
  obtain rfl : vw2 = vw := by rw [hcell b1] at hc; exact Option.some.inj hc
  obtain ⟨cw, hbw⟩ := hbw
  have hb1 := below_alloc W (.cells C 38)
  have hs1 : (W.alloc (.cells C 38)).heap.size = W.heap.size + 1 := by simp
  have f0 := below_fr hb1 (fun _ => false) false
  have r1 := hrd.keep hb1
  have c1 := f0.cells _ _ _ _ b1 rfl
  have p2 := own_fr b2 f0 rfl
  have p3 := own_fr b3 f0 rfl
  have p4 := own_fr b4 f0 rfl
  have f5 := grown_ty p4 hgr
  have hB5 := grown_below p4 hgr r1.below r1.below.size (Nat.le_refl _)
  have r5 := r1.fr f5 (fun T hT => by
    cases hc : (T == 38)
    · rfl
    · rw [beq_iff_eq] at hc; subst hc; cases hT) hB5
  have c5 := f5.cells _ _ _ _ c1 rfl
  have sf := set_ty c5 10 v'
  have hcu : cu (x.saw v).was = cu x.was ++ [.int .u64 v] := by show cu (x.was ++ [v]) = _; simp [cu]
  have hln : (x.saw v).was.length = x.was.length + 1 := by show (x.was ++ [v]).length = _; simp
  have hnb : ∃ g, v'.ownBlock = some g := by
    obtain ⟨g, cap, cur, rfl, -, -⟩ := own_row1 hown (by omega)
    exact ⟨g, rfl⟩
  obtain ⟨kb', hkb', hkw⟩ : ∃ kb', v'.ownBlock = some kb' ∧ (kb' = kb ∨ w.heap.size ≤ kb') := by
    obtain ⟨g, hg⟩ := hnb
    refine ⟨g, hg, ?_⟩
    rcases hob with e | e
    · rcases b5 with e2 | ⟨e2, -⟩
      · left; rw [← e, hg] at e2; exact Option.some.inj e2
      · rw [e2, hg] at e; cases e
    · right; rw [hg] at e; have := Option.some.inj e; have := hfx.size; omega
  refine ⟨kb', rd_setL r5 c5 rfl l0 v', ⟨l0, vl, vs, v', setCell_same c5 10 v', own_fr (own_fr p2 f5 rfl) sf rfl, own_fr (own_fr p3 f5 rfl) sf rfl, by rw [hcu, hln]; exact own_fr hown sf rfl, .inl hkb'⟩, hkw, ?_⟩
  have hob2 : ∀ k, vw2.ownBlock = some k → k = kb := fun k hk => by
    rcases b5 with e | ⟨e, -⟩
    · rw [e] at hk; exact (Option.some.inj hk).symm
    · rw [e] at hk; cases hk
  have z1 : Fq fb kb w W := fq_fx hfx hbw
  have z2 : Fq fb kb W (W.alloc (.cells C 38)) := fq_below hb1 _ _
  have z3 : Fq fb kb (W.alloc (.cells C 38)) W5 := ⟨hgr.size, fun k cs T fr g1 g2 g3 g4 => (hgr.block k (Array.getElem?_eq_some_iff.1 g1).1 (fun c => g4 (hob2 k c.symm))).trans g1, fun k es cl g1 => f5.map rfl k es cl g1⟩
  have z4 : Fq fb kb W5 (W5.setCell ⟨fb, 10, none⟩ v') := fq_fx (set_fx rTy false W5 fb 10 v') c5
  exact ((z1.trans z2).trans z3).trans z4
/-- The cells that line 2 reads. -/
def TB2 (fb g n : Nat) (vs : Value) (vw : Value) (a : Int) (W : World) : Prop := ∃ cs ca : Array Value, (W.heap[fb]? = some (.cells cs 93 (0, 0)) ∧ cs[9]? = some vs ∧ cs[10]? = some vw) ∧ (W.heap[g]? = some (.cells ca 39 (0, 0)) ∧ ca[n]? = some (.int .u64 a))
abbrev TR2 (fb g n : Nat) (vs vw : Value) (a : Int) (W : World) : Prop := W.cell? ⟨fb, 9, none⟩ = some vs ∧ W.cell? ⟨fb, 10, none⟩ = some vw ∧ W.cell? ⟨g, n, none⟩ = some (.int .u64 a)
theorem TB2.r {fb g n : Nat} {vs vw : Value} {a : Int} {W : World} (h : TB2 fb g n vs vw a W) : TR2 fb g n vs vw a W := by
  obtain ⟨cs, ca, ⟨h1, h2, h3⟩, h5, h6⟩ := h
  exact ⟨(hcell h1 9).trans h2, (hcell h1 10).trans h3, (hcell h5 n).trans h6⟩
theorem TB2.fr {fb g n : Nat} {vs vw : Value} {a : Int} {W W' : World} (h : TB2 fb g n vs vw a W) (hf : Fr rTy false W W') : TB2 fb g n vs vw a W' := by
  obtain ⟨cs, ca, ⟨h1, h2⟩, h5, h6⟩ := h
  exact ⟨cs, ca, ⟨hf.cells _ _ _ _ h1 rfl, h2⟩, hf.cells _ _ _ _ h5 rfl, h6⟩
/-- Behind line 2. -/
def RL2 (w0 w : World) (R : WB) (V : WV) (xr : RS) (fb kb : Nat) (y : RL) (w' : World) : Prop := ∃ kb', RD w0 w' R V xr ∧ RLookAt w' w0.heap.size fb kb' y ∧ (kb' = kb ∨ w.heap.size ≤ kb') ∧ Fq fb kb w w'
set_option maxRecDepth 10000 in
set_option maxHeartbeats 4000000 in
theorem rlstep2 {w0 w : World} {R : WB} {V : WV} {xr : RS} {fb kb : Nat} {x : RL} (h : RD w0 w R V xr) (hr : xr.room) (hx : RLookAt w w0.heap.size fb kb x) (h2 : x.line = 2) (ht : -9223372036854775808 ≤ x.tries ∧ x.tries < 9223372036854775808) (hl : V.nts.length < 1048576) (hs : Nsteps V.nts xr.cnt) (hk : x.was.length < x.s.length) (hk4 : x.s.length ≤ 1000) (a : Int) (ha : x.s[x.was.length] = a) (haw : (Lit.int .u64 a).wf = true) (v : Int) (hv : v = rlook xr.l a) (hvb : 0 ≤ v ∧ v < 18446744073709551616) :
    Calls Tryz.prog 30 #[.pointer (some ⟨fb, 0, none⟩), .pointer (some ⟨R.wb, 0, none⟩)] w fun e w' => e = .returned (.tuple #[]) ∧ RL2 w0 w R (rseV V (xr.acc 1 a v).cnt x v) (xr.acc 1 a v) fb kb (x.second v) w' := by
  have hB : RLB w0 w w R V xr fb kb x := ⟨h, hx, (below_fr (Below.refl _ _) rTy false).fx fb⟩
  have c0 := hx.c.c0
  rw [h2] at c0
  have hbw := hx.blk
  have hs2 : Nsteps V.nts (xr.acc 1 a v).cnt := hs.le (by show (xr.cnt : Int) ≤ xr.cnt + 1; omega)
  have hB3 := hB.below (Below.refl w.heap.size w).drew
  obtain ⟨g, c, va, kc, tb⟩ : ∃ g c va kc, TB2 fb g x.was.length (.slice (some ⟨g, 0, none⟩) x.s.length c) (.slice va x.was.length kc) a w.drew := by
    obtain ⟨_, vl, vs, vw, b1, b2, b3, b4, -⟩ := hB3.lk
    obtain ⟨g, c, ca, rfl, hg, hga⟩ := own_row1 b3 (by omega)
    obtain ⟨va, kc, rfl⟩ := own_sl2 b4
    exact ⟨g, c, va, kc, _, ca, ⟨b1, rfl, rfl⟩, hg, by rw [hga _ hk, cu_at _ _ hk, ha]⟩
  have t3 : TR2 fb g x.was.length (.slice (some ⟨g, 0, none⟩) x.s.length c) (.slice va x.was.length kc) a w.drew := tb.r
  have hld := rwload hB3.rd hr a haw
  rw [← hv] at hld
  have i1 : (x.was.length : Int) < x.s.length := by omega
  have i0 : (0 : Int) ≤ x.was.length := by omega
  obtain ⟨i6, hi6, hz0, hz1, hz2⟩ := info_parts info_u64
  have HI := Lib.hid hi6; have HZ0 := Lib.hid hz0; have HZ1 := Lib.hid hz1; have HZ2 := Lib.hid hz2
  have HB3 := Lib.hid hB3; have HT := Lib.hid ht; have HL := Lib.hid hl; have HS := Lib.hid hs2; have HTB := Lib.hid tb; have HKS := Lib.hid hk; have HK4 := Lib.hid hk4; have HBW := Lib.hid hbw; have HVB := Lib.hid hvb
  clear hB h hr hx h2 ht hl hs hs2 hB3 hv haw hk hk4 tb ha hbw hvb hi6 hz0 hz1 hz2
  obtain ⟨xr2, hxr⟩ : ∃ xr2, xr2 = xr.acc 1 a v := ⟨_, rfl⟩
  rw [← hxr] at HS hld ⊢
  clear hxr
  obtain ⟨n, hn⟩ : ∃ n, n = x.was.length := ⟨_, rfl⟩
  rw [← hn] at t3 i1 i0 HTB HKS
  have HN := Lib.hid hn
  clear hn
  go_enter Tryz.func30, Tryz.ntmps30
  go_upto_region 8 with (fail)
  clear c0
  go_region_held2 (fun W => TR2 fb g n (.slice (some ⟨g, 0, none⟩) x.s.length c) (.slice va n kc) a W) (assumption) (first
    | (go_at_call 55; refine hld.mono ?_; intro e w4 hh; obtain ⟨hh1, h4, f4⟩ := hh; subst hh1; have HB4 := Lib.hid (HB3.out.move h4 f4); have t4 : TR2 fb g n (.slice (some ⟨g, 0, none⟩) x.s.length c) (.slice va n kc) a w4 := (HTB.out.fr f4).r; clear h4 f4 hld t3))
  obtain ⟨-, c10, -⟩ := t4
  have C10 := Lib.hid c10
  have HOW : Hid (w4.ownsRow w0.heap.size 38 1 (.slice va n kc) n (cu x.was)) := Lib.hid (by
    obtain ⟨_, vl, vs, vw, b1, b2, b3, b4, -⟩ := HB4.out.lk
    have e := c10
    rw [hcell b1] at e
    have e : vw = .slice va n kc := Option.some.inj e
    rw [e] at b4; rw [HN.out]; rw [HN.out] at b4; exact b4)
  have HPOST : ∀ (w5 : World) (v' : Value), w5.ownsRow w0.heap.size 38 1 v' (n + 1) (cu x.was ++ [.int .u64 v]) → (w4.alloc (.cells #[.int .u64 v] 38)).grownBy w5 (Value.slice va n kc).ownBlock → (v'.ownBlock = (Value.slice va n kc).ownBlock ∨ v'.ownBlock = some (w4.heap.size + 1)) → (∃ kb', RD w0 (w5.setCell ⟨fb, 10, none⟩ v') R V xr2 ∧ RLookAt (w5.setCell ⟨fb, 10, none⟩ v') w0.heap.size fb kb' (x.saw v) ∧ (kb' = kb ∨ w.heap.size ≤ kb') ∧ Fq fb kb w (w5.setCell ⟨fb, 10, none⟩ v')) ∧ w5.cell? ⟨fb, 10, none⟩ = some (.slice va n kc) ∧ w5.frozen? ⟨fb, 10, none⟩ = false := by
    intro w5 v' h1 h2 h3
    obtain ⟨cs, b1⟩ := HB4.out.lk.blk
    have f5 := grown_ty (HOW.out.alloc (.cells #[.int .u64 v] 38)) h2
    have b2 := f5.cells _ _ _ _ (((below_alloc w4 (.cells #[.int .u64 v] 38)).block _ (Array.getElem?_eq_some_iff.1 b1).1).trans b1) rfl
    refine ⟨rlsaw HB4.out HBW.out C10.out (by rw [← HN.out]; exact h1) h2 (h3.imp id (fun e => by rw [e]; simp)), ?_, hfrz b2 10⟩
    rw [hcell b2, ← hcell b1]; exact C10.out
  have HP := Lib.hid HPOST
  have hs4 : Hid (w0.heap.size ≤ (w4.alloc (.cells #[.int .u64 v] 38)).heap.size) := Lib.hid (Nat.le_trans HB4.out.rd.below.size (below_alloc w4 (.cells #[.int .u64 v] 38)).size)
  clear HPOST i0 i1
  go_upto_region 10 with (at_builtin; refine wpList_append_own_at _ rfl _ _ 91 rfl w0.heap.size 38 i6 (.int .u64 0) 1 8 Tryz.underlying91 HI.out HZ0.out HZ1.out HZ2.out rfl (by decide) _ _ _ rfl (HOW.out.alloc _) ⟨_, 0, none⟩ 1 1 [.int .u64 v] rfl rfl (cell_one_new _ _ _) ?c2 ?c3 ?c4 ?c5 ?_)
  case c2 => simp [Value.oneCell']
  case c3 => have := HKS.out; have := HK4.out; unfold maxLen; omega
  case c4 => have := HKS.out; have := HK4.out; omega
  case c5 => exact hs4.out
  intro v' w5 hown hgrow _ hob
  obtain ⟨P5, d10, e10⟩ := HP.out w5 v' hown hgrow hob
  obtain ⟨va', kc', rfl⟩ := own_sl2 hown
  have HP5 := Lib.hid P5
  clear P5 hown hgrow hob c10 HP HOW HB4
  go_upto_region 10 with (fail)
  generalize w5.setCell ⟨fb, 10, none⟩ (.slice va' (n + 1) kc') = w6 at *
  clear d10 e10
  obtain ⟨kb', p1, p2, p3, p4⟩ := HP5.out
  have HB6 : Hid (RLB w0 w6 w6 R V xr2 fb kb' (x.saw v)) := Lib.hid ⟨p1, p2, (below_fr (Below.refl _ _) rTy false).fx fb⟩
  have P3 := Lib.hid p3; have P4 := Lib.hid p4
  obtain ⟨q, hq⟩ : ∃ q, (v % 2 == 1) = q := ⟨_, rfl⟩
  have hq2 : (v.tmod 2 == 1) = q := by rw [Int.tmod_eq_emod_of_nonneg HVB.out.1]; exact hq
  have HQ := Lib.hid hq
  have HBK6 := Lib.hid p2.blk
  clear p1 p2 p3 p4 HP5
  cases q
  · have hev : Hid (¬ v % 2 = 1) := Lib.hid (beq_eq_false_iff_ne.1 HQ.out)
    obtain ⟨al9, k9, c9⟩ := HB6.out.lk.c.c9
    obtain ⟨al10, k10, c10⟩ := HB6.out.lk.c.c10
    obtain ⟨m, hm⟩ : ∃ m, m = (x.saw v).was.length := ⟨_, rfl⟩
    have c9 : w6.cell? ⟨fb, 9, none⟩ = some (.slice al9 x.s.length k9) := c9
    rw [← hm] at c10
    have y9 := fun st : ExtW w6 => st.cell c9
    have y10 := fun st : ExtW w6 => st.cell c10
    obtain ⟨d, hd⟩ : ∃ d, ((m : Int) == (x.s.length : Int)) = d := ⟨_, rfl⟩
    have hd2 : (m = x.s.length) ↔ d = true := by rw [← hd, beq_iff_eq]; omega
    have hm2 : m = x.was.length + 1 := by rw [hm]; show (x.was ++ [v]).length = _; simp
    have hfin : Hid (x.second v = if m = x.s.length then { x.saw v with line := 3 } else x.saw v) := Lib.hid (by unfold RL.second; rw [if_neg hev.out, hm2])
    have hfv : Hid (rseV V xr2.cnt x v = V) := Lib.hid (by unfold rseV; rw [if_neg hev.out])
    have HD := Lib.hid hd2
    clear hd2 c9 c10 hm hm2
    go_upto_region 12 with (fail)
    clear hq hq2
    cases d
    · refine wp_region_ext (by kernel_rfl) (by kernel_rfl) ?_
      repeat (go_big_quiet_step (fail))
      refine wpQuiet_nil ?_
      rintro w7 ⟨⟨W2, hW⟩, rfl⟩
      have HF := Lib.hid (HB6.out.below hW)
      clear y9 y10 hW
      go_wp2_with (fail)
      go_end0
      refine ⟨rfl, ?_⟩
      rw [hfin.out, hfv.out, if_neg (fun c => by have := HD.out.1 c; cases this)]
      exact ⟨kb', HF.out.rd, HF.out.lk, P3.out, P4.out.trans (by obtain ⟨cs, b⟩ := HBK6.out; exact fq_fx HF.out.fx b)⟩
    · refine wp_region_ext (by kernel_rfl) (by kernel_rfl) ?_
      repeat (go_big_quiet_step (fail))
      refine wpQuiet_nil ?_
      rintro w7 ⟨⟨W2, hW⟩, rfl⟩
      have HF := Lib.hid (HB6.out.below hW)
      have c0 := HF.out.lk.c.c0
      have f0 := HF.out.lk.f 0
      have HG := Lib.hid (HF.out.set (y := { x.saw v with line := 3 }) 0 (.int .i64 3) rfl rfl rfl (fun _ _ _ => rfl))
      clear y9 y10 hW
      go_wp2_with (fail)
      go_end0
      refine ⟨rfl, ?_⟩
      rw [hfin.out, hfv.out, if_pos (HD.out.2 (by first | rfl | trivial))]
      exact ⟨kb', HG.out.rd, HG.out.lk, P3.out, P4.out.trans (by obtain ⟨cs, b⟩ := HBK6.out; exact fq_fx HG.out.fx b)⟩
  · have hod : Hid (v % 2 = 1) := Lib.hid (beq_iff_eq.1 HQ.out)
    have hag := rlagain HB6.out HT.out HL.out HS.out
    go_wp2_with (go_at_call 104; refine hag.mono ?_; intro e w7 hh; obtain ⟨hh1, h7⟩ := hh; subst hh1; have HB7 := Lib.hid h7; clear h7 hag)
    go_end0
    refine ⟨rfl, ?_⟩
    have e1 : rseV V xr2.cnt x v = ragV V xr2.cnt (x.saw v) := by unfold rseV; rw [if_pos hod.out]
    have e2 : x.second v = (x.saw v).again := by unfold RL.second; rw [if_pos hod.out]
    rw [e1, e2]
    exact ⟨kb', HB7.out.rd, HB7.out.lk, P3.out, P4.out.trans (by obtain ⟨cs, b⟩ := HBK6.out; exact fq_fx HB7.out.fx b)⟩
end Go.Proofs.YtmakjfeepmiggaaGreat

/-
  LooksPlay: a Look of both sides: what it rests on.
-/
namespace Go.Proofs.YtmakjfeepmiggaaGreat
open Go.RowKit Go.Maps TagPure
set_option linter.unusedVariables false

/-- What both sides say; the block of what the document's has seen. -/
structure LPd where
  x : LK
  y : RL
  kb : Nat
def lkSet (o : PO LPd) (k : Nat) : Prop := k = o.pb ∨ k = o.rb ∨ k = o.a.x.vb ∨ k = o.a.kb
def qLk (T : TypeId) : Bool := T == 199 || T == 93 || T == 269 || T == 38
def zLk (T : TypeId) : Bool := T == 69 || T == 3 || T == 39
structure LkP (w : World) (lo : Nat) (o : PO LPd) (S : Nat → Prop) : Prop where
  p : LookAt w lo o.pb o.a.x
  r : RLookAt w lo o.rb o.a.kb o.a.y
  ok : LOk o.a.x
  rel : LRel o.a.x o.a.y
  key : o.a.x.key.size ≤ 2000
  s : S = lkSet o
theorem own_keepZL {Z : TypeId → Bool} {w w' : World} {lo e size n : Nat} {v : Value} {xs : List Value} (h : w.ownsRow lo e size v n xs) (hz : ZKeep Z w w') (he : Z e = true) : w'.ownsRow lo e size v n xs := by
  obtain ⟨c1, c2 | ⟨g, cap, cur, hv, hb, hg, r⟩⟩ := h
  · exact ⟨c1, .inl c2⟩
  · exact ⟨c1, .inr ⟨g, cap, cur, hv, hb, hz g cur _ _ hg he, r⟩⟩
theorem own_keepKL {w w' : World} {lo e size n kb xb : Nat} {v : Value} {xs : List Value} (h : w.ownsRow lo e size v n xs) (hk : v.ownBlock = some kb ∨ (v.ownBlock = none ∧ kb = xb)) (he : w'.heap[kb]? = w.heap[kb]?) : w'.ownsRow lo e size v n xs := by
  obtain ⟨c1, c2 | ⟨g, cap, cur, rfl, hb, hg, r⟩⟩ := h
  · exact ⟨c1, .inl c2⟩
  · have hkg : kb = g := by
      rcases hk with e | ⟨e, -⟩
      · simp only [Value.ownBlock, Option.some.injEq] at e; exact e.symm
      · simp only [Value.ownBlock] at e; cases e
    subst hkg
    exact ⟨c1, .inr ⟨kb, cap, cur, rfl, hb, he.trans hg, r⟩⟩
theorem kb_blkL {w : World} {lo e size n kb xb : Nat} {v : Value} {xs : List Value} (h : w.ownsRow lo e size v n xs) (hk : v.ownBlock = some kb ∨ (v.ownBlock = none ∧ kb = xb)) : kb = xb ∨ (lo ≤ kb ∧ ∃ cs, w.heap[kb]? = some (.cells cs e (0, 0))) := by
  rcases hk with e | ⟨-, e⟩
  · right
    obtain ⟨c1, ⟨rfl, -⟩ | ⟨g, cap, cur, rfl, hb, hg, r⟩⟩ := h
    · cases e
    · simp only [Value.ownBlock, Option.some.injEq] at e
      subst e; exact ⟨hb, _, hg⟩
  · exact .inl e
section
variable {w w' : World} {lo lo' fb kb : Nat} {x : LK} {y : RL}
theorem LookAt.keepB (h : LookAt w lo fb x) (h1 : w'.heap[fb]? = w.heap[fb]?) (h2 : w'.heap[x.vb]? = w.heap[x.vb]?) (hz : ZKeep zLk w w') : LookAt w' lo fb x := by
  obtain ⟨h0, va, vv, vs, b1, b2, b3, b4, b5⟩ := h
  refine ⟨h0, va, vv, vs, h1.trans b1, ?_, own_keepKL b3 b5 h2, ?_, b5⟩
  · rcases b2 with c | ⟨g, cur, c1, c2, c3, c4⟩
    · exact .inl c
    · exact .inr ⟨g, cur, c1, c2, hz _ _ _ _ c3 rfl, c4⟩
  · rcases b4 with c | ⟨g, off, cap, cur, c1, c2, c3, c4, c5⟩
    · exact .inl c
    · exact .inr ⟨g, off, cap, cur, c1, c2, c3, hz _ _ _ _ c4 rfl, c5⟩
theorem RLookAt.keepB (h : RLookAt w lo fb kb y) (h1 : w'.heap[fb]? = w.heap[fb]?) (h2 : w'.heap[kb]? = w.heap[kb]?) (hz : ZKeep zLk w w') : RLookAt w' lo fb kb y := by
  obtain ⟨h0, vl, vs, vw, b1, b2, b3, b4, b5⟩ := h
  exact ⟨h0, vl, vs, vw, h1.trans b1, own_keepZL b2 hz rfl, own_keepZL b3 hz rfl, own_keepKL b4 b5 h2, b5⟩
theorem LookAt.lowerB (h : LookAt w lo fb x) (hl : lo' ≤ lo) : LookAt w lo' fb x := by
  obtain ⟨h0, va, vv, vs, b1, b2, b3, b4, b5⟩ := h
  exact ⟨Nat.le_trans hl h0, va, vv, vs, b1, b2, own_loL b3 hl, b4, b5⟩
theorem RLookAt.lower (h : RLookAt w lo fb kb y) (hl : lo' ≤ lo) : RLookAt w lo' fb kb y := by
  obtain ⟨h0, vl, vs, vw, b1, b2, b3, b4, b5⟩ := h
  exact ⟨Nat.le_trans hl h0, vl, vs, vw, b1, own_loL b2 hl, own_loL b3 hl, own_loL b4 hl, b5⟩
theorem LookAt.blkB (h : LookAt w lo fb x) : ∃ cs, w.heap[fb]? = some (.cells cs 199 (0, 0)) := by
  obtain ⟨h0, va, vv, vs, b1, -⟩ := h; exact ⟨_, b1⟩
theorem LookAt.vbB (h : LookAt w lo fb x) : lo ≤ x.vb ∧ ∃ cs T, w.heap[x.vb]? = some (.cells cs T (0, 0)) ∧ (T = 199 ∨ T = 269) := by
  obtain ⟨h0, va, vv, vs, b1, b2, b3, b4, b5⟩ := h
  rcases kb_blkL b3 b5 with e | ⟨e, cs, e2⟩
  · rw [e]; exact ⟨h0, _, _, b1, .inl rfl⟩
  · exact ⟨e, cs, _, e2, .inr rfl⟩
theorem RLookAt.kbB (h : RLookAt w lo fb kb y) : lo ≤ kb ∧ ∃ cs T, w.heap[kb]? = some (.cells cs T (0, 0)) ∧ (T = 93 ∨ T = 38) := by
  obtain ⟨h0, vl, vs, vw, b1, b2, b3, b4, b5⟩ := h
  rcases kb_blkL b4 b5 with e | ⟨e, cs, e2⟩
  · rw [e]; exact ⟨h0, _, _, b1, .inl rfl⟩
  · exact ⟨e, cs, _, e2, .inr rfl⟩
end
theorem lk_law : POLaw (α := LPd) 88 qLk zLk LkP where
  q := fun T hT => by
    unfold qLk at hT
    simp only [Bool.or_eq_true, beq_iff_eq] at hT
    rcases hT with ((rfl | rfl) | rfl) | rfl <;> exact ⟨rfl, by decide, by decide, rfl⟩
  z := fun T hT => by
    unfold zLk at hT
    simp only [Bool.or_eq_true, beq_iff_eq] at hT
    rcases hT with (rfl | rfl) | rfl <;> exact ⟨rfl, by decide⟩
  ot := ⟨rfl, by decide⟩
  keep := fun {w w' lo o S} h hs hk hz => by
    have e := h.s
    have k : ∀ k, lkSet o k → w'.heap[k]? = w.heap[k]? := fun k hk2 => hk k (by rw [e]; exact hk2)
    exact ⟨h.p.keepB (k _ (.inl rfl)) (k _ (.inr (.inr (.inl rfl)))) hz, h.r.keepB (k _ (.inr (.inl rfl))) (k _ (.inr (.inr (.inr rfl)))) hz, h.ok, h.rel, h.key, e⟩
  lo := fun {w lo o S k} h hk => by
    rw [h.s] at hk
    rcases hk with rfl | rfl | rfl | rfl
    · exact h.p.low
    · exact h.r.low
    · exact h.p.vbB.1
    · exact h.r.kbB.1
  lower := fun {w lo lo' o S} h hl => ⟨h.p.lowerB hl, h.r.lower hl, h.ok, h.rel, h.key, h.s⟩
  blk := fun {w lo o S k} h hk => by
    rw [h.s] at hk
    rcases hk with rfl | rfl | rfl | rfl
    · obtain ⟨cs, e⟩ := h.p.blkB; exact .inl ⟨_, _, _, e, rfl⟩
    · obtain ⟨cs, e⟩ := h.r.blk; exact .inl ⟨_, _, _, e, rfl⟩
    · obtain ⟨-, cs, T, e, hT⟩ := h.p.vbB
      exact .inl ⟨_, _, _, e, by rcases hT with rfl | rfl <;> rfl⟩
    · obtain ⟨-, cs, T, e, hT⟩ := h.r.kbB
      exact .inl ⟨_, _, _, e, by rcases hT with rfl | rfl <;> rfl⟩
theorem lk_maps {w : World} {lo : Nat} {o : PO LPd} {S : Nat → Prop} {V : WV} (h : LkP w lo o S) : MapsIn w V S := fun k es cl hk he => by
  rw [h.s] at hk
  rcases hk with rfl | rfl | rfl | rfl
  · obtain ⟨cs, e⟩ := h.p.blkB; rw [e] at he; cases he
  · obtain ⟨cs, e⟩ := h.r.blk; rw [e] at he; cases he
  · obtain ⟨-, cs, T, e, -⟩ := h.p.vbB; rw [e] at he; cases he
  · obtain ⟨-, cs, T, e, -⟩ := h.r.kbB; rw [e] at he; cases he
end Go.Proofs.YtmakjfeepmiggaaGreat

/-
  LooksPlay: a step of a Look, on both sides.
-/
namespace Go.Proofs.YtmakjfeepmiggaaGreat
open Go.RowKit Go.Maps TagPure
set_option linter.unusedVariables false

/-- The document's words behind a step. -/
def lnR (s : CS) (xr : RS) (x : LK) : RS :=
  match x.ph with
  | .fst => xr.acc 1 2 (s.val 2)
  | .snd => xr.acc 1 (x.vs.getD x.at_ (0, 0)).1 (s.val (x.vs.getD x.at_ (0, 0)).1)
  | .thd => xr.acc 1 8 (s.val 8)
  | .tag => xr.acc 1 (tagsA (x.all.getD x.at_ (0, 0)).1 (x.all.getD x.at_ (0, 0)).2) (s.val (tagsA (x.all.getD x.at_ (0, 0)).1 (x.all.getD x.at_ (0, 0)).2))
  | .itm => xr.acc 1 (itemA (x.all.getD x.at_ (0, 0)).1 (x.all.getD x.at_ (0, 0)).2 (x.sl.headD 0 : Nat)) (s.val (itemA (x.all.getD x.at_ (0, 0)).1 (x.all.getD x.at_ (0, 0)).2 (x.sl.headD 0 : Nat)))
  | .fif => xr.acc 1 2 (s.val 2)
  | .six => xr.acc 1 (x.vs.getD x.at_ (0, 0)).1 (s.val (x.vs.getD x.at_ (0, 0)).1)
  | .off => xr
theorem ln_al {s : CS} {xr : RS} (x : LK) (h : Alike s xr) : Alike (lnS s x) (lnR s xr x) := by
  unfold lnS lnR
  generalize x.ph = p
  cases p <;> first | exact h.acc _ _ _ | exact h
theorem ln_far {s : CS} {xr : RS} {m : Nat} (x : LK) (h : Far s xr m) (ha : Alike s xr) : Far (lnS s x) (lnR s xr x) (m + 1) := by
  unfold lnS lnR
  generalize x.ph = p
  cases p <;> first | exact h.acc ha _ _ _ | exact ⟨Nat.le_succ_of_le h.1, Nat.le_succ_of_le h.2.1, Nat.le_succ_of_le h.2.2⟩
theorem agV_rest (V : WV) (s : CS) (x : LK) : (agV V s x).c = V.c ∧ (agV V s x).fm = V.fm ∧ (Nkinds V.nts → Nkinds (agV V s x).nts) := by
  unfold agV; split
  · exact ⟨rfl, rfl, id⟩
  · exact ⟨rfl, rfl, fun h => Nkinds.add (n := ⟨s.cnt, V.hd, 6, 0, 0, 0, 0, x.left - 1⟩) h⟩
theorem lnV_rest (V : WV) (s : CS) (x : LK) : (lnV V s x).c = V.c ∧ (lnV V s x).fm = V.fm ∧ (Nkinds V.nts → Nkinds (lnV V s x).nts) := by
  unfold lnV
  split
  · split
    · exact agV_rest _ _ _
    · exact ⟨rfl, rfl, id⟩
  · split
    · exact ⟨rfl, rfl, id⟩
    · exact agV_rest _ _ _
  · split
    · exact ⟨rfl, rfl, id⟩
    · exact agV_rest _ _ _
  · exact ⟨rfl, rfl, id⟩
theorem DPS.ln {w0 w w2 : World} {B R : WB} {V : WV} {s : CS} {x : RS} {m : Nat} (h : DPS w0 w B R V s x m) (y : LK) (hw : WS w0 w2 B (lnV V s y) (lnS s y)) (hr : RD w0 w2 R (lnV V s y) (lnR s x y)) : DPS w0 w2 B R (lnV V s y) (lnS s y) (lnR s x y) (m + 1) := by
  obtain ⟨e1, e2, e3⟩ := lnV_rest V s y
  have hn := lnV_nts V s y
  have h1 := h.nn
  have h2 := h.ni
  have hf := ln_far y h.far h.pr.al
  rw [Nat.add_assoc] at hf
  exact ⟨⟨hw, hr, ln_al y h.pr.al⟩, hf, by rw [e1]; exact h.cok, by omega, by rw [lnV_its]; omega, lnV_steps V s y h.st, e3 h.nk⟩
theorem at_of {l : List Int} {m : List (Int × Int)} {f : Int × Int → Int} (e : l = m.map f) {k : Nat} (hk : k < l.length) : l[k] = f (m.getD k (0, 0)) := by
  subst e
  rw [List.getElem_map, List.getD_eq_getElem?_getD, List.getElem?_eq_getElem (by simpa using hk)]; rfl
theorem all_of {l m : List (Int × Int)} (e : m = l) {k k2 : Nat} (h2 : k2 = k) (hk : k2 < l.length) : l[k2] = m.getD k (0, 0) := by
  subst e; subst h2
  rw [List.getD_eq_getElem?_getD, List.getElem?_eq_getElem hk]; rfl
/-- Between the two steps. -/
structure KMid (w0 w : World) (B R : WB) (V : WV) (s : CS) (x : RS) (o : PO LPd) (w' : World) : Prop where
  ws : WS w0 w' B V s
  p : LookAt w' w0.heap.size o.pb o.a.x
  fq : Fq o.rb o.a.kb w w'
  ex : ∃ kb', RD w0 w' R (lnV V s o.a.x) (lnR s x o.a.x) ∧ RLookAt w' w0.heap.size o.rb kb' (o.a.y.stp V.its s o.a.x) ∧ (kb' = o.a.kb ∨ kb' = o.rb ∨ w.heap.size ≤ kb')
theorem fq_frK {b c : Nat} {w w' : World} (h : Fq b c w w') {cb cc : Array Value} {T : TypeId} (hb : w.heap[b]? = some (.cells cb 93 (0, 0))) (hc : w.heap[c]? = some (.cells cc T (0, 0))) (hT : T = 93 ∨ T = 38) :
    Fr (fun X => rTy X || (X == 93 || X == 38)) false w w' := by
  refine ⟨h.size, fun k cs X fr hk hX => ?_, fun _ => h.map⟩
  simp only [Bool.or_eq_false_iff, beq_eq_false_iff_ne] at hX
  refine h.cells k cs X fr hk hX.1 (fun e => ?_) (fun e => ?_)
  · subst e; exact hX.2.1 (ocell_ty hk hb)
  · subst e
    have := ocell_ty hk hc
    rcases hT with e | e <;> rw [e] at this
    · exact hX.2.1 this
    · exact hX.2.2 this
theorem w_not_q14 (T : TypeId) (h : wTy T = true) : (rTy T || (T == 93 || T == 38)) = false := by
  rw [w_not_r T h, Bool.false_or]
  unfold wTy at h
  simp only [Bool.or_eq_true, beq_iff_eq] at h
  rcases h with ((((((rfl | rfl) | rfl) | rfl) | rfl) | rfl) | rfl) | rfl <;> rfl
theorem l_not_q14 (T : TypeId) (h : lTy T = true) : (rTy T || (T == 93 || T == 38)) = false := by
  unfold lTy at h
  simp only [Bool.or_eq_true, beq_iff_eq] at h
  rcases h with ((rfl | rfl) | rfl) | rfl <;> rfl
section
variable {w0 w w1 : World} {B R : WB} {V : WV} {s : CS} {x : RS} {m : Nat} {o : PO LPd} {S : Nat → Prop}
theorem KMid.below (h : KMid w0 w B R V s x o w1) {w2 : World} (hb : Below w1.heap.size w1 w2) : KMid w0 w B R V s x o w2 := by
  obtain ⟨h1, h2, h3, kb', h4, h5, h6⟩ := h
  exact ⟨h1.keep hb, h2.below hb, h3.trans (fq_below hb _ _), kb', h4.keep hb, h5.below hb, h6⟩
theorem lk_mid (h : DPS w0 w B R V s x m) (ho : LkP w w0.heap.size o S) {w' : World} {kb' : Nat} (hrd : RD w0 w' R (lnV V s o.a.x) (lnR s x o.a.x)) (hr : RLookAt w' w0.heap.size o.rb kb' (o.a.y.stp V.its s o.a.x)) (hk : kb' = o.a.kb ∨ kb' = o.rb ∨ w.heap.size ≤ kb') (hf : Fq o.rb o.a.kb w w') : KMid w0 w B R V s x o w' := by
  obtain ⟨cs, hb⟩ := ho.r.blk
  obtain ⟨-, cc, T, hc, hT⟩ := ho.r.kbB
  have hfr := fq_frK hf hb hc hT
  exact ⟨h.pr.ws.fr hfr w_not_q14 hrd.below, ho.p.fr hfr l_not_q14, hf, kb', hrd, hr, hk⟩
set_option maxHeartbeats 1000000 in
theorem lk_r (h : DPS w0 w B R V s x m) (hm : m ≤ 1000) (ho : LkP w w0.heap.size o S) :
    Calls Tryz.prog 30 #[.pointer (some ⟨o.rb, 0, none⟩), .pointer (some ⟨R.wb, 0, none⟩)] w fun e w' => e = .returned (.tuple #[]) ∧ KMid w0 w B R V s x o w' := by
  obtain ⟨rm1, rm2⟩ := far_rooms h.far h.pr.al (by omega)
  obtain ⟨pb, rb, f, y, kb⟩ := o
  have hrel := ho.rel
  have hok := ho.ok
  have hk := ho.key
  have hr := ho.r
  simp only at hrel hok hk hr
  have hvb : ∀ a, 0 ≤ s.val a ∧ s.val a < 18446744073709551616 := fun a => wf_bd (h.pr.ws.own.wf a)
  have hvl : ∀ a, s.val a = rlook x.l a := fun a => by rw [h.pr.al.val]
  have hk2 : y.key.size ≤ 1000000 := by rw [hrel.key]; omega
  have hni : V.its.length ≤ 1048576 := by have := h.ni; omega
  have hnn : V.nts.length < 1048576 := by have := h.nn; omega
  have hcnt : (s.cnt : Int) = x.cnt := by rw [h.pr.al.cnt]
  have hst : Nsteps V.nts x.cnt := by rw [← hcnt]; exact h.st
  obtain ⟨bcs, hbk⟩ := hr.blk
  have fin : ∀ (w' : World) (V' : WV) (x' : RS) (y' : RL), RLB w0 w w' R V' x' rb kb y' → V' = lnV V s f → x' = lnR s x f → y' = y.stp V.its s f → KMid w0 w B R V s x ⟨pb, rb, ⟨f, y, kb⟩⟩ w' := fun w' V' x' y' hB e1 e2 e3 => by
    subst e1; subst e2; subst e3
    exact lk_mid h ho hB.rd hB.lk (.inl rfl) (fq_fx hB.fx hbk)
  rcases hrel.cs with ⟨p, l, e1, e2, e3⟩ | ⟨p, l, md, e1⟩ | ⟨p, l, md, e1⟩ | ⟨p, l, md, e1, e2, e3, e4, e5⟩ | ⟨p, l, md, e1, e2, ⟨n, hn, e3, e4⟩, e5, e6⟩ | ⟨p, l, md, e1, e2, e3⟩ | ⟨p, l, md, e1, e2, e3, e4⟩ | ⟨p, l, e1, e2⟩
  · refine (rlstep1 h.pr.rd rm2 hr hk2 l (s.val 2) (hvl 2) (hvb 2)).mono fun e w' hh => ⟨hh.1, ?_⟩
    have hB := hh.2
    exact lk_mid h ho (by unfold lnV lnR; rw [p]; exact hB.rd) (by unfold RL.stp; rw [p]; exact hB.lk) (.inr (.inl rfl)) (fq_fx hB.fx hbk)
  · have hat := hok.atv (.inl p)
    have hg := getD_at (d := ((0 : Int), (0 : Int))) hat
    have hwl : y.was.length = f.at_ := by rw [e1, List.length_map, List.length_take]; omega
    have hsl : y.s.length = f.vs.length := by rw [md.s, List.length_map]
    have hvl2 := hok.vl
    refine (rlstep2 h.pr.rd rm2 hr l hrel.tr hnn hst (by omega) (by omega) (f.vs.getD f.at_ (0, 0)).1 (by rw [at_of md.s, hwl]) (hok.vw _ (List.mem_of_getElem? hg)) _ (hvl _) (hvb _)).mono fun e w' hh => ⟨hh.1, ?_⟩
    obtain ⟨-, kb', h1, h2, h3, h4⟩ := hh
    refine lk_mid h ho ?_ (by unfold RL.stp; rw [p]; exact h2) (by rcases h3 with h3 | h3; exact .inl h3; exact .inr (.inr h3)) h4
    have ev : rseV V (x.acc 1 (f.vs.getD f.at_ (0, 0)).1 (s.val (f.vs.getD f.at_ (0, 0)).1)).cnt y (s.val (f.vs.getD f.at_ (0, 0)).1) = lnV V s f := by
      unfold lnV rseV; rw [p]; simp only
      split
      · exact lrel_agV (x := f.seen (s.val (f.vs.getD f.at_ (0, 0)).1)) (y := y.saw (s.val (f.vs.getD f.at_ (0, 0)).1)) hrel.left (by unfold lnS; rw [p]; exact congrArg (fun (n : Nat) => (n : Int)) (h.pr.al.acc _ _ _).cnt)
      · rfl
    rw [ev] at h1
    have er : lnR s x f = x.acc 1 (f.vs.getD f.at_ (0, 0)).1 (s.val (f.vs.getD f.at_ (0, 0)).1) := by unfold lnR; rw [p]
    show RD w0 w' R (lnV V s f) (lnR s x f)
    rw [er]
    exact h1
  · refine (rlstep3 h.pr.rd rm2 hr l (s.val 8) (hvl 8)).mono fun e w' hh => ⟨hh.1, fin _ _ _ _ hh.2 (by unfold lnV; rw [p]) (by unfold lnR; rw [p]) ?_⟩
    unfold RL.stp; rw [p]; simp only
    rw [(h.pr.al.acc 1 8 (s.val 8)).cnt]
  · have hat := hok.ata (.inl p)
    have hyl : y.at_ < y.l.length := by rw [e2, ← md.al]; exact hat
    have ea := all_of md.al e2 hyl
    have hc := rl4tag h.pr.rd rm2 hr hk2 e3 hyl md.pl (s.val (tagsA (f.all.getD f.at_ (0, 0)).1 (f.all.getD f.at_ (0, 0)).2)) (by rw [ea]; exact hvl _) (hvb _)
    rw [ea] at hc
    refine (rlstep4 hr l _ _ hc).mono fun e w' hh => ⟨hh.1, fin _ _ _ _ hh.2 (by unfold lnV; rw [p]) (by unfold lnR; rw [p]) (by unfold RL.stp; rw [p])⟩
  · have hat := hok.ata (.inr p)
    have hyl : y.at_ < y.l.length := by rw [e2, ← md.al]; exact hat
    have ea := all_of md.al e2 hyl
    have hd : f.sl.headD 0 = n := by rw [e4]; rfl
    have hc := rl4itm h.pr.rd rm2 hni hr hk2 hrel.tags n hn e3 hyl md.pl (s.val (itemA (f.all.getD f.at_ (0, 0)).1 (f.all.getD f.at_ (0, 0)).2 n)) (by rw [ea]; exact hvl _)
    rw [ea] at hc
    refine (rlstep4 hr l _ _ hc).mono fun e w' hh => ⟨hh.1, fin _ _ _ _ hh.2 (by unfold lnV; rw [p]) (by unfold lnR; rw [p]; simp only [hd]) (by unfold RL.stp; rw [p]; simp only [hd])⟩
  · refine (rlstep5 h.pr.rd rm2 hr l hrel.tr hnn hst (s.val 2) (hvl 2)).mono fun e w' hh => ⟨hh.1, fin _ _ _ _ hh.2 ?_ (by unfold lnR; rw [p]) (by unfold RL.stp; rw [p])⟩
    unfold lnV rfiV; rw [p]; simp only
    rw [md.tab]
    split
    · rfl
    · exact lrel_agV hrel.left (by unfold lnS; rw [p]; exact congrArg (fun (n : Nat) => (n : Int)) (h.pr.al.acc _ _ _).cnt)
  · have hat := hok.atv (.inr p)
    have hg := getD_at (d := ((0 : Int), (0 : Int))) hat
    have hsl : y.s.length = f.vs.length := by rw [md.s, List.length_map]
    have hwl : y.was.length = f.vs.length := by rw [e1, List.length_map]
    have hvl2 := hok.vl
    refine (rlstep6 h.pr.rd rm2 hr l hrel.tr hnn hst (by omega) (by omega) (by omega) (f.vs.getD f.at_ (0, 0)).1 (f.vs.getD f.at_ (0, 0)).2 (by rw [at_of md.s, e2]) (by rw [at_of e1, e2]) (hok.vw _ (List.mem_of_getElem? hg)) _ (hvl _)).mono fun e w' hh => ⟨hh.1, fin _ _ _ _ hh.2 ?_ (by unfold lnR; rw [p]) (by unfold RL.stp; rw [p])⟩
    unfold lnV rsxV; rw [p]; simp only
    split
    · rfl
    · exact lrel_agV hrel.left (by unfold lnS; rw [p]; exact congrArg (fun (n : Nat) => (n : Int)) (h.pr.al.acc _ _ _).cnt)
  · refine (rlstep0 hr l _).mono fun e w' hh => ⟨hh.1, ?_⟩
    obtain ⟨-, rfl⟩ := hh
    refine lk_mid h ho (by unfold lnV lnR; rw [p]; exact h.pr.rd) (kb' := kb) (by unfold RL.stp; rw [p]; exact hr) (.inl rfl) (fq_below (Below.refl _ _) _ _)
/-- Behind both steps. -/
def KFin (w0 w : World) (B R : WB) (V : WV) (s : CS) (x : RS) (m : Nat) (o : PO LPd) (S : Nat → Prop) (w2 : World) : Prop :=
  ∃ (vb kb : Nat) (S' : Nat → Prop), DPS w0 w2 B R (lnV V s o.a.x) (lnS s o.a.x) (lnR s x o.a.x) (m + 1) ∧ LkP w2 w0.heap.size ⟨o.pb, o.rb, ⟨lnX V.its s o.a.x vb, o.a.y.stp V.its s o.a.x, kb⟩⟩ S' ∧ (∀ k, S' k → S k ∨ w.heap.size ≤ k) ∧ OFr S V (lnV V s o.a.x) w w2
theorem lnX_ph (its : List Itm) (s : CS) (x : LK) (vb : Nat) : (lnX its s x vb).ph = (lnX its s x 0).ph := by
  obtain ⟨c, hc⟩ := lnX_vb its s x x.vb vb
  have e : lnX its s x vb = { lnX its s x 0 with vb := c } := hc
  rw [e]
theorem lnX_key (its : List Itm) (s : CS) (x : LK) (vb : Nat) : (lnX its s x vb).key = x.key := by
  unfold lnX
  split
  · rfl
  · unfold LK.second LK.seen LK.again; split
    · split <;> rfl
    · split <;> rfl
  · rfl
  · unfold LK.on; split
    · split <;> rfl
    · rfl
  · unfold LK.item LK.on; split
    · rfl
    · split
      · split <;> rfl
      · rfl
  · unfold LK.fifth LK.again; split
    · rfl
    · split <;> rfl
  · unfold LK.sixth LK.again; split
    · split <;> rfl
    · split <;> rfl
  · rfl
theorem lnX_vbs (its : List Itm) (s : CS) (x : LK) (vb : Nat) : (x.ph = .fst ∧ (lnX its s x vb).vb = vb) ∨ (lnX its s x vb).vb = x.vb := by
  unfold lnX
  split
  · rename_i p; exact .inl ⟨p, rfl⟩
  all_goals right
  · unfold LK.second LK.seen LK.again; split
    · split <;> rfl
    · split <;> rfl
  · rfl
  · unfold LK.on; split
    · split <;> rfl
    · rfl
  · unfold LK.item LK.on; split
    · rfl
    · split
      · split <;> rfl
      · rfl
  · unfold LK.fifth LK.again; split
    · rfl
    · split <;> rfl
  · unfold LK.sixth LK.again; split
    · split <;> rfl
    · split <;> rfl
  · rfl
theorem lfz_fr {b c : Nat} {w w' : World} (h : Fz b c w w') {cb cc : Array Value} {T : TypeId} (hb : w.heap[b]? = some (.cells cb 199 (0, 0))) (hc : w.heap[c]? = some (.cells cc T (0, 0))) (hT : T = 199 ∨ T = 269) :
    Fr (fun X => wTy X || (X == 199 || X == 269)) true w w' := by
  refine ⟨h.size, fun k cs X fr hk hX => ?_, fun c => by cases c⟩
  simp only [Bool.or_eq_false_iff, beq_eq_false_iff_ne] at hX
  refine h.cells k cs X fr hk hX.1 (fun e => ?_) (fun e => ?_)
  · subst e; exact hX.2.1 (ocell_ty hk hb)
  · subst e
    have := ocell_ty hk hc
    rcases hT with e | e <;> rw [e] at this
    · exact hX.2.1 this
    · exact hX.2.2 this
theorem r_not_q14 (T : TypeId) (h : rTy T = true) : (wTy T || (T == 199 || T == 269)) = false := by
  rw [r_not_w T h, Bool.false_or]
  unfold rTy at h
  simp only [Bool.or_eq_true, beq_iff_eq] at h
  rcases h with (((((rfl | rfl) | rfl) | rfl) | rfl) | rfl) | rfl <;> rfl
theorem lk_x (h : DPS w0 w B R V s x m) (hm : m ≤ 1000) (ho : LkP w w0.heap.size o S) (hM : KMid w0 w B R V s x o w1) :
    Calls Tryz.prog 31 #[.pointer (some ⟨o.pb, 0, none⟩), .pointer (some ⟨B.wb, 0, none⟩)] w1 fun e w2 => e = .returned (.bool (decide ((lnX V.its s o.a.x 0).ph = .off))) ∧ KFin w0 w B R V s x m o S w2 := by
  obtain ⟨rm1, rm2⟩ := far_rooms h.far h.pr.al (by omega)
  obtain ⟨hws, hp, hfq, kb', hrd, hr, hkb⟩ := hM
  have hvb : ∀ a, 0 ≤ s.val a ∧ s.val a < 18446744073709551616 := fun a => wf_bd (h.pr.ws.own.wf a)
  have hni : V.its.length ≤ 1048576 := by have := h.ni; omega
  have hnn : V.nts.length < 1048576 := by have := h.nn; omega
  have hS : ∀ k, lkSet o k → S k := fun k hk => by rw [ho.s]; exact hk
  have hno : ∀ k, ¬ S k → k ≠ o.pb ∧ k ≠ o.rb ∧ k ≠ o.a.x.vb ∧ k ≠ o.a.kb := fun k hk =>
    ⟨fun e => hk (hS k (.inl e)), fun e => hk (hS k (.inr (.inl e))), fun e => hk (hS k (.inr (.inr (.inl e)))), fun e => hk (hS k (.inr (.inr (.inr e))))⟩
  have ofr : ∀ w2 s2, Fz o.pb o.a.x.vb w1 w2 → WS w0 w2 B (lnV V s o.a.x) s2 → OFr S V (lnV V s o.a.x) w w2 := fun w2 s2 f2 hw2 => by
    have efm := (lnV_rest V s o.a.x).2.1
    refine ⟨Nat.le_trans hfq.size f2.size, fun k cs T fr hk hT hn => ?_, fun k es cl hk hv hn => ?_⟩
    · obtain ⟨n1, n2, n3, n4⟩ := hno k hn
      unfold wrTy at hT
      simp only [Bool.or_eq_false_iff] at hT
      exact f2.cells k cs T fr (hfq.cells k cs T fr hk hT.2 n2 n4) hT.1 n1 n3
    · rw [← efm] at hv
      exact ⟨(hw2.fmk _ hv).1, hv⟩
  have hkS : ∀ k, (k = o.pb ∨ k = o.rb ∨ k = o.a.x.vb ∨ k = kb') → S k ∨ w.heap.size ≤ k := fun k hk => by
    rcases hk with e | e | e | e
    · exact .inl (hS k (.inl e))
    · exact .inl (hS k (.inr (.inl e)))
    · exact .inl (hS k (.inr (.inr (.inl e))))
    · rcases hkb with e2 | e2 | e2
      · exact .inl (hS k (.inr (.inr (.inr (e.trans e2)))))
      · exact .inl (hS k (.inr (.inl (e.trans e2))))
      · exact .inr (by omega)
  by_cases hoff : o.a.x.ph = .off
  · have e1 : lnV V s o.a.x = V := by unfold lnV; rw [hoff]
    have e2 : lnS s o.a.x = s := by unfold lnS; rw [hoff]
    have e3 : lnX V.its s o.a.x 0 = o.a.x := by unfold lnX; rw [hoff]
    refine (lstep_over hp hoff _).mono fun e w2 hh => ?_
    obtain ⟨h1, rfl⟩ := hh
    refine ⟨by rw [e3, decide_eq_true hoff]; exact h1, o.a.x.vb, kb', lkSet ⟨o.pb, o.rb, ⟨lnX V.its s o.a.x o.a.x.vb, o.a.y.stp V.its s o.a.x, kb'⟩⟩, h.ln o.a.x (by rw [e1, e2]; exact hws) hrd, ?_, ?_, ofr _ (lnS s o.a.x) ⟨Nat.le_refl _, fun _ _ _ _ h _ _ _ => h⟩ (by rw [e1, e2]; exact hws)⟩
    · have e4 : lnX V.its s o.a.x o.a.x.vb = o.a.x := by unfold lnX; rw [hoff]
      rw [e4]
      have hl := lrel_step (its := V.its) ho.rel ho.ok hvb o.a.x.vb
      rw [e4] at hl
      exact ⟨hp, hr, ho.ok, hl, ho.key, rfl⟩
    · intro k hk
      refine hkS k ?_
      have e4 : lnX V.its s o.a.x o.a.x.vb = o.a.x := by unfold lnX; rw [hoff]
      unfold lkSet at hk
      simp only [e4] at hk
      exact hk
  · refine (lstep hws rm1 hp ho.ok hni hnn h.st hoff).mono fun e w2 hh => ?_
    obtain ⟨vb, h1, h2, h3, h4, h5⟩ := hh
    obtain ⟨cb, z1⟩ := hp.blkB
    obtain ⟨-, cc, T, z2, hT⟩ := hp.vbB
    have hf := lfz_fr h5 z1 z2 hT
    have hrd2 := hrd.fr hf r_not_q14 h3.below
    have hr2 := hr.fr hf rfl rfl rfl rfl
    refine ⟨by rw [lnX_ph] at h1; exact h1, vb, kb', lkSet ⟨o.pb, o.rb, ⟨lnX V.its s o.a.x vb, o.a.y.stp V.its s o.a.x, kb'⟩⟩, h.ln o.a.x h3 hrd2, ⟨h4, hr2, ho.ok.next V.its s vb, lrel_step ho.rel ho.ok hvb vb, ?_, rfl⟩, ?_, ofr _ _ h5 h3⟩
    · show (lnX V.its s o.a.x vb).key.size ≤ 2000
      rw [lnX_key]; exact ho.key
    · intro k hk
      rcases hk with e | e | e | e
      · exact hkS k (.inl e)
      · exact hkS k (.inr (.inl e))
      · rcases lnX_vbs V.its s o.a.x vb with ⟨p, e2⟩ | e2
        · simp only at e
          rw [e2] at e
          rcases h2 p with e3 | e3
          · right; have := hfq.size; omega
          · exact hkS k (.inl (e.trans e3))
        · simp only at e
          rw [e2] at e
          exact hkS k (.inr (.inr (.inl e)))
      · exact hkS k (.inr (.inr (.inr e)))
end
end Go.Proofs.YtmakjfeepmiggaaGreat

/-
  LooksPlay: do both sides tell the same?
-/
namespace Go.Proofs.YtmakjfeepmiggaaGreat
open Go.RowKit Go.Maps TagPure
set_option linter.unusedVariables false

/-- What is told, of both. -/
theorem lrel_tells {x : LK} {y : RL} (h : LRel x y) : (y.line == 0) = decide (x.ph = .off) ∧ y.fails = x.bad ∧ y.got = x.got := by
  have go : ∀ (n : Int), n ≠ 0 → y.line = n → x.ph ≠ .off → (y.line == 0) = decide (x.ph = .off) ∧ y.got = x.got := fun n hn h1 h2 => by
    have h3 : y.line ≠ 0 := by rw [h1]; exact hn
    refine ⟨by rw [decide_eq_false h2]; exact beq_eq_false_iff_ne.2 h3, ?_⟩
    unfold RL.got LK.got
    rw [if_neg (fun c => h3 c.1), if_neg (fun c => h2 c.1)]
  rcases h.cs with ⟨p, l, e1, e2, e3⟩ | ⟨p, l, md, e1⟩ | ⟨p, l, md, e1⟩ | ⟨p, l, md, e1⟩ | ⟨p, l, md, e1⟩ | ⟨p, l, md, e1⟩ | ⟨p, l, md, e1⟩ | ⟨p, l, e1, e2⟩
  · obtain ⟨a, b⟩ := go 1 (by decide) l (by rw [p]; decide)
    exact ⟨a, e2.trans e1.symm, b⟩
  · obtain ⟨a, b⟩ := go 2 (by decide) l (by rw [p]; decide)
    exact ⟨a, md.fails.trans md.bad.symm, b⟩
  · obtain ⟨a, b⟩ := go 3 (by decide) l (by rw [p]; decide)
    exact ⟨a, md.fails.trans md.bad.symm, b⟩
  · obtain ⟨a, b⟩ := go 4 (by decide) l (by rw [p]; decide)
    exact ⟨a, md.fails.trans md.bad.symm, b⟩
  · obtain ⟨a, b⟩ := go 4 (by decide) l (by rw [p]; decide)
    exact ⟨a, md.fails.trans md.bad.symm, b⟩
  · obtain ⟨a, b⟩ := go 5 (by decide) l (by rw [p]; decide)
    exact ⟨a, md.fails.trans md.bad.symm, b⟩
  · obtain ⟨a, b⟩ := go 6 (by decide) l (by rw [p]; decide)
    exact ⟨a, md.fails.trans md.bad.symm, b⟩
  · refine ⟨by rw [decide_eq_true p, l]; rfl, e1.symm, ?_⟩
    unfold RL.got LK.got
    by_cases hb : x.bad = false
    · obtain ⟨a, b, c⟩ := e2 hb
      rw [if_pos ⟨l, e1.symm.trans hb⟩, if_pos ⟨p, hb⟩, a, b, c]
    · rw [if_neg (fun c => hb (e1.trans c.2)), if_neg (fun c => hb c.2)]
set_option maxRecDepth 10000 in
set_option maxHeartbeats 4000000 in
theorem osameL {w : World} {lo lo2 pb rb kb : Nat} {x : LK} {y : RL} (hp : LookAt w lo pb x) (hr : RLookAt w lo2 rb kb y) (hrel : LRel x y) : Calls Tryz.prog 27 #[.agg #[.pointer (some ⟨pb, 0, none⟩), .pointer (some ⟨rb, 0, none⟩)]] w fun e w' => e = .returned (.bool true) ∧ Below w.heap.size w w' := by
  have hb1 := below_alloc w (.cells #[.pointer (some ⟨pb, 0, none⟩), .pointer (some ⟨rb, 0, none⟩)] 88)
  have hz1 := heap_alloc_new w (.cells #[.pointer (some ⟨pb, 0, none⟩), .pointer (some ⟨rb, 0, none⟩)] 88)
  obtain ⟨ht1, ht2, ht3⟩ := lrel_tells hrel
  obtain ⟨ov, hov⟩ : ∃ ov, ov = decide (x.ph = .off) := ⟨_, rfl⟩
  have hg := fun W (hW : Below w.heap.size w W) => lgot (hp.below hW)
  have hg2 := fun W (hW : Below w.heap.size w W) => rlgot (hr.below hW)
  have ho := fun W (hW : Below w.heap.size w W) => lover (hp.below hW)
  have hf := fun W (hW : Below w.heap.size w W) => lfails (hp.below hW)
  rw [ht3] at hg2
  rw [← hov] at ho ht1
  have c0 := hr.c.c0
  have c1 := hr.c.c1
  rw [ht2] at c1
  obtain ⟨ga, hga⟩ : ∃ ga, ga = x.got.1 := ⟨_, rfl⟩
  obtain ⟨gb, hgb⟩ : ∃ gb, gb = x.got.2.1 := ⟨_, rfl⟩
  obtain ⟨gc, hgc⟩ : ∃ gc, gc = x.got.2.2 := ⟨_, rfl⟩
  obtain ⟨bd, hbd⟩ : ∃ bd, bd = x.bad := ⟨_, rfl⟩
  rw [← hga, ← hgb, ← hgc] at hg hg2
  rw [← hbd] at hf c1
  have HB1 := Lib.hid hb1; have HZ1 := Lib.hid hz1; have HG := Lib.hid hg; have HG2 := Lib.hid hg2; have HO := Lib.hid ho; have HF := Lib.hid hf; have HC0 := Lib.hid c0; have HC1 := Lib.hid c1
  clear hp hr hrel hb1 hz1 ht2 ht3 hg hg2 ho hf c0 c1 hov hga hgb hgc hbd
  go_enter Tryz.func27, Tryz.ntmps27
  go_upto_region 1 with (fail)
  change Code.wp _ _ _ _ (w.alloc (.cells #[.pointer (some ⟨pb, 0, none⟩), .pointer (some ⟨rb, 0, none⟩)] 88))
  generalize w.alloc (.cells #[.pointer (some ⟨pb, 0, none⟩), .pointer (some ⟨rb, 0, none⟩)] 88) = w1 at *
  obtain ⟨ob, hob⟩ : ∃ ob, ob = w.heap.size := ⟨_, rfl⟩
  rw [← hob] at HZ1
  simp only [← hob]
  clear hob
  have a0 := hcell HZ1.out 0
  have hg := HG.out w1 HB1.out
  go_upto_region 2 with (go_at_call 95; refine hg.mono ?_; intro e w2 hh; obtain ⟨hh1, b2⟩ := hh; subst hh1; have B2 := Lib.hid (HB1.out.trans (b2.mono HB1.out.size)); have hz2 := (b2.block _ (Array.getElem?_eq_some_iff.1 HZ1.out).1).trans HZ1.out; have HZ2 := Lib.hid hz2; clear b2 hg a0 hz2)
  have a1 := hcell HZ2.out 1
  have hg2 := HG2.out w2 B2.out
  go_upto_region 3 with (go_at_call 98; refine hg2.mono ?_; intro e w5 hh; obtain ⟨hh1, b4⟩ := hh; subst hh1; have B5 := Lib.hid (B2.out.trans (b4.mono B2.out.size)); have HZ5 := Lib.hid ((b4.block _ (Array.getElem?_eq_some_iff.1 HZ2.out).1).trans HZ2.out); clear b4 hg2 a1)
  have o0 := fun st : ExtW w5 => st.cell (hcell HZ5.out 0)
  have o1 := fun st : ExtW w5 => st.cell (hcell HZ5.out 1)
  have c5 : w5.cell? ⟨rb, 0, none⟩ = some (.int .i64 y.line) := (B5.out.cell (World.block_lt_of_cell? _ _ HC0.out)).trans HC0.out
  have c6 : w5.cell? ⟨rb, 1, none⟩ = some (.bool bd) := (B5.out.cell (World.block_lt_of_cell? _ _ HC1.out)).trans HC1.out
  have l0 := fun st : ExtW w5 => st.cell c5
  have l1 := fun st : ExtW w5 => st.cell c6
  have ho' : ∀ st : ExtW w5, Calls Tryz.prog 99 #[.pointer (some ⟨pb, 0, none⟩)] st.val fun e w' => e = .returned (.bool ov) ∧ st.val = w' := fun st => (HO.out _ (B5.out.trans (st.below.mono B5.out.size))).mono fun e w' ⟨h1, h2⟩ => ⟨h1, h2.symm⟩
  have hf' : ∀ st : ExtW w5, Calls Tryz.prog 96 #[.pointer (some ⟨pb, 0, none⟩)] st.val fun e w' => e = .returned (.bool bd) ∧ st.val = w' := fun st => (HF.out _ (B5.out.trans (st.below.mono B5.out.size))).mono fun e w' ⟨h1, h2⟩ => ⟨h1, h2.symm⟩
  have h1e : (ga == ga) = true := beq_iff_eq.2 rfl
  have h2e : (gb == gb) = true := beq_iff_eq.2 rfl
  have h3e : (gc == gc) = true := beq_iff_eq.2 rfl
  clear c5 c6
  cases ov
  all_goals cases bd
  all_goals
    refine wp_region_ext (by kernel_rfl) (by kernel_rfl) ?_
    repeat (go_big_quiet_step (first | (go_at_call 99; with_reducible refine calls_ext_same (ho' _)) | (go_at_call 96; with_reducible refine calls_ext_same (hf' _))))
    refine wpQuiet_nil ?_
    rintro W ⟨⟨W2, hW⟩, rfl⟩
    have HW := Lib.hid hW
    clear hW o0 o1 l0 l1 ho' hf'
    go_wp2_with fail
    go_ret
    exact ⟨rfl, B5.out.trans (HW.out.mono B5.out.size)⟩
end Go.Proofs.YtmakjfeepmiggaaGreat

/-
  LooksPlay: a Look begins, on both sides.
-/
namespace Go.Proofs.YtmakjfeepmiggaaGreat
open Go.RowKit Go.Maps TagPure
set_option linter.unusedVariables false

def lk0 (key : ByteArray) (n : Int) (p : Nat) : LK := ⟨key, hashOf key, if n < 0 then 0 else n, .fst, 0, [], [], 0, [], 0, 0, 0, false, p⟩
def rl0 (key : ByteArray) (n : Int) : RL := ⟨1, false, 0, 0, 0, key, n, 0, [], [], [], 0, 0, 0⟩
def AK (key : ByteArray) (n : Int) (w : World) (lo p : Nat) : Prop := LookAt w lo p (lk0 key n p)
def BK (key : ByteArray) (n : Int) (w : World) (lo r : Nat) : Prop := RLookAt w lo r r (rl0 key n)
section
variable {key : ByteArray} {n : Int} {w w' : World} {lo lo' p r : Nat}
theorem AK.below (h : AK key n w lo p) (hb : Below w.heap.size w w') : AK key n w' lo p := LookAt.below h hb
theorem AK.lower (h : AK key n w lo p) (hl : lo' ≤ lo) : AK key n w lo' p := LookAt.lowerB h hl
theorem BK.below (h : BK key n w lo r) (hb : Below w.heap.size w w') : BK key n w' lo r := RLookAt.below h hb
theorem BK.lower (h : BK key n w lo r) (hl : lo' ≤ lo) : BK key n w lo' r := RLookAt.lower h hl
end
theorem look_new (key : ByteArray) (hk : key.size ≤ 1000000) (n : Int) (W : World) : Calls Tryz.prog 25 #[.string key, .int .i64 n] W fun e w' => ∃ p, e = .returned (.pointer (some ⟨p, 0, none⟩)) ∧ AK key n w' W.heap.size p ∧ W.heap.size ≤ p ∧ Below W.heap.size W w' := by
  refine (newlook key hk n _ rfl W).mono fun e w' hh => ?_
  obtain ⟨fb, h1, h2, h3⟩ := hh
  exact ⟨fb, h1, h2, h2.low, h3⟩
theorem rlook_new (key : ByteArray) (n : Int) (W : World) : Calls Tryz.prog 26 #[.string key, .int .i64 n] W fun e w' => ∃ p, e = .returned (.pointer (some ⟨p, 0, none⟩)) ∧ BK key n w' W.heap.size p ∧ W.heap.size ≤ p ∧ Below W.heap.size W w' := by
  refine (rlnew key n W).mono fun e w' hh => ?_
  obtain ⟨fb, h1, h2, h3⟩ := hh
  exact ⟨fb, h1, h2, h2.low, h3⟩
theorem lk_made {key : ByteArray} {n : Int} {w : World} {lo p r : Nat} (hk : key.size ≤ 2000) (hn : (Lit.int .i64 n).wf = true) (h : AK key n w lo p) (hr : BK key n w lo r) : ∃ d : LPd, d.x.ph = .fst ∧ LkP w lo ⟨p, r, d⟩ (lkSet ⟨p, r, d⟩) := by
  have hn2 : -9223372036854775808 ≤ n ∧ n < 9223372036854775808 := by
    simp [Lit.wf, IntKind.min, IntKind.max, IntKind.bits, IntKind.signed] at hn; omega
  refine ⟨⟨lk0 key n p, rl0 key n, r⟩, rfl, h, hr, ⟨?_, hfold_bd _ _, Nat.zero_le _, Nat.zero_le _, fun p hp => (by cases hp), fun c => absurd rfl c, fun c => (by rcases c with c | c <;> cases c), fun c => (by rcases c with c | c <;> cases c), fun c => (by cases c), fun n hn => (by cases hn)⟩, ⟨rfl, rfl, hn2, ?_, (show (0 : Int) ≤ 0 ∧ (0 : Int) < 18446744073709551616 from by decide), .inl ⟨rfl, rfl, rfl, rfl, rfl⟩⟩, hk, rfl⟩
  · show 0 ≤ (if n < 0 then 0 else n) ∧ (if n < 0 then 0 else n) < 9223372036854775808
    split <;> omega
  · show (if n < 0 then 0 else n) = if n ≤ 0 then 0 else n
    split <;> split <;> omega
end Go.Proofs.YtmakjfeepmiggaaGreat

/-
  A list of acts that came in. (written by genacts.py)
-/
namespace Go.Proofs.YtmakjfeepmiggaaGreat
open Go.RowKit Go.Maps
set_option linter.unusedVariables false

structure LkAc where
  k : Int
  a : Int
  key : ByteArray
  n : Int
  v : Int
  i : Int
  ik : ByteArray
  iv : ByteArray
  fl : Int
  id : Int
  ie : Int
  ig : Int
def LkAc.cells (x : LkAc) : List Value := [.int .u8 x.k, .int .u8 x.a, .string x.key, .int .i64 x.n, .int .u64 x.v, .int .u64 x.i, .string x.ik, .string x.iv, .int .u32 x.fl, .int .u64 x.id, .int .i64 x.ie, .int .i64 x.ig]
structure LkAc.wf (x : LkAc) : Prop where
  k : (Lit.int .u8 x.k).wf = true
  a : (Lit.int .u8 x.a).wf = true
  key : x.key.size ≤ maxLen
  n : (Lit.int .i64 x.n).wf = true
  v : (Lit.int .u64 x.v).wf = true
  i : (Lit.int .u64 x.i).wf = true
  ik : x.ik.size ≤ maxLen
  iv : x.iv.size ≤ maxLen
  fl : (Lit.int .u32 x.fl).wf = true
  id : (Lit.int .u64 x.id).wf = true
  ie : (Lit.int .i64 x.ie).wf = true
  ig : (Lit.int .i64 x.ig).wf = true
def lkacLeaves : List Leaf := [.int .u8, .int .u8, .str, .int .i64, .int .u64, .int .u64, .str, .str, .int .u32, .int .u64, .int .i64, .int .i64]
theorem lkac_of {w : World} {cs : List Value} (h : Leaf.allHold w lkacLeaves cs) : ∃ x : LkAc, cs = x.cells ∧ x.wf := by
  obtain ⟨c0, r, rfl, g0, h⟩ := allHold_cons h
  obtain ⟨c1, r, rfl, g1, h⟩ := allHold_cons h
  obtain ⟨c2, r, rfl, g2, h⟩ := allHold_cons h
  obtain ⟨c3, r, rfl, g3, h⟩ := allHold_cons h
  obtain ⟨c4, r, rfl, g4, h⟩ := allHold_cons h
  obtain ⟨c5, r, rfl, g5, h⟩ := allHold_cons h
  obtain ⟨c6, r, rfl, g6, h⟩ := allHold_cons h
  obtain ⟨c7, r, rfl, g7, h⟩ := allHold_cons h
  obtain ⟨c8, r, rfl, g8, h⟩ := allHold_cons h
  obtain ⟨c9, r, rfl, g9, h⟩ := allHold_cons h
  obtain ⟨c10, r, rfl, g10, h⟩ := allHold_cons h
  obtain ⟨c11, r, rfl, g11, h⟩ := allHold_cons h
  obtain rfl := allHold_nil h
  obtain ⟨n0, rfl, w0⟩ := holds_int g0
  obtain ⟨n1, rfl, w1⟩ := holds_int g1
  obtain ⟨n2, rfl, w2⟩ := holds_str g2
  obtain ⟨n3, rfl, w3⟩ := holds_int g3
  obtain ⟨n4, rfl, w4⟩ := holds_int g4
  obtain ⟨n5, rfl, w5⟩ := holds_int g5
  obtain ⟨n6, rfl, w6⟩ := holds_str g6
  obtain ⟨n7, rfl, w7⟩ := holds_str g7
  obtain ⟨n8, rfl, w8⟩ := holds_int g8
  obtain ⟨n9, rfl, w9⟩ := holds_int g9
  obtain ⟨n10, rfl, w10⟩ := holds_int g10
  obtain ⟨n11, rfl, w11⟩ := holds_int g11
  exact ⟨⟨n0, n1, n2, n3, n4, n5, n6, n7, n8, n9, n10, n11⟩, rfl, w0, w1, w2, w3, w4, w5, w6, w7, w8, w9, w10, w11⟩
/-- Accesses that may be read. -/
structure LkActs (w : World) (a : Option Addr) (cap : Nat) (l : List LkAc) : Prop where
  le : l.length ≤ cap
  most : cap ≤ maxLen
  nil : a = none → cap = 0
  wf : ∀ x ∈ l, x.wf
  cell : l = [] ∨ ∃ b off, a = some ⟨b, off, none⟩ ∧ ∀ i, (hi : i < l.length) → ∀ j, j < 12 → w.cell? ⟨b, off + (i * 12 + j), none⟩ = (l[i]).cells[j]?
theorem lkacts_of {w : World} {a : Option Addr} {n cap : Nat} (h : Leaf.holds w (.sl lkacLeaves) (.slice a n cap)) : ∃ l, l.length = n ∧ LkActs w a cap l := by
  obtain ⟨l, a', cap', hv, h1, h2, h3, h4, h5⟩ := recs_of h
  simp only [Value.slice.injEq] at hv
  obtain ⟨rfl, rfl, rfl⟩ := hv
  obtain ⟨m, hm, hp⟩ := list_of (fun i (x : LkAc) => l[i]? = some x.cells ∧ x.wf) l.length (fun i hi => by
    obtain ⟨x, hx, hw⟩ := lkac_of (h4 _ (List.getElem_mem hi))
    exact ⟨x, by rw [List.getElem?_eq_getElem hi, hx], hw⟩)
  refine ⟨m, hm, by omega, h2, h3, fun x hx => ?_, ?_⟩
  · obtain ⟨i, hi, rfl⟩ := List.mem_iff_getElem.1 hx
    exact (hp i hi).2
  · rcases h5 with rfl | ⟨b, off, rfl, h5⟩
    · left; simpa using hm
    · refine .inr ⟨b, off, rfl, fun i hi j hj => ?_⟩
      have h6 := h5 i (by omega) j hj
      have h7 := (hp i hi).1
      rw [List.getElem?_eq_getElem (by omega)] at h7
      simp only [Option.some.injEq] at h7
      rw [h7] at h6
      exact h6
theorem LkActs.at {w : World} {a : Option Addr} {cap : Nat} {l : List LkAc} (h : LkActs w a cap l) (i : Nat) (hi : i < l.length) :
    ∃ b off x, a = some ⟨b, off, none⟩ ∧ l[i]? = some x ∧ x.wf ∧ w.cell? ⟨b, off + i * 12, none⟩ = some (.int .u8 x.k) ∧ w.cell? ⟨b, off + i * 12 + 1, none⟩ = some (.int .u8 x.a) ∧ w.cell? ⟨b, off + i * 12 + 2, none⟩ = some (.string x.key) ∧ w.cell? ⟨b, off + i * 12 + 3, none⟩ = some (.int .i64 x.n) ∧ w.cell? ⟨b, off + i * 12 + 4, none⟩ = some (.int .u64 x.v) ∧ w.cell? ⟨b, off + i * 12 + 5, none⟩ = some (.int .u64 x.i) ∧ w.cell? ⟨b, off + i * 12 + 6, none⟩ = some (.string x.ik) ∧ w.cell? ⟨b, off + i * 12 + 7, none⟩ = some (.string x.iv) ∧ w.cell? ⟨b, off + i * 12 + 8, none⟩ = some (.int .u32 x.fl) ∧ w.cell? ⟨b, off + i * 12 + 9, none⟩ = some (.int .u64 x.id) ∧ w.cell? ⟨b, off + i * 12 + 10, none⟩ = some (.int .i64 x.ie) ∧ w.cell? ⟨b, off + i * 12 + 11, none⟩ = some (.int .i64 x.ig) := by
  rcases h.cell with rfl | ⟨b, off, rfl, h5⟩
  · simp at hi
  · have h6 := h5 i hi
    refine ⟨b, off, l[i], rfl, List.getElem?_eq_getElem hi, h.wf _ (List.getElem_mem hi), h6 0 (by omega), ?_, ?_, ?_, ?_, ?_, ?_, ?_, ?_, ?_, ?_, ?_⟩
    · rw [Nat.add_assoc]; exact h6 1 (by omega)
    · rw [Nat.add_assoc]; exact h6 2 (by omega)
    · rw [Nat.add_assoc]; exact h6 3 (by omega)
    · rw [Nat.add_assoc]; exact h6 4 (by omega)
    · rw [Nat.add_assoc]; exact h6 5 (by omega)
    · rw [Nat.add_assoc]; exact h6 6 (by omega)
    · rw [Nat.add_assoc]; exact h6 7 (by omega)
    · rw [Nat.add_assoc]; exact h6 8 (by omega)
    · rw [Nat.add_assoc]; exact h6 9 (by omega)
    · rw [Nat.add_assoc]; exact h6 10 (by omega)
    · rw [Nat.add_assoc]; exact h6 11 (by omega)

theorem LkActs.below {w w' : World} {a : Option Addr} {cap : Nat} {l : List LkAc} (h : LkActs w a cap l) (hb : Below w.heap.size w w') : LkActs w' a cap l := by
  refine ⟨h.le, h.most, h.nil, h.wf, h.cell.imp id fun ⟨b, off, e, h5⟩ => ⟨b, off, e, fun i hi j hj => ?_⟩⟩
  have h6 := h5 i hi j hj
  obtain ⟨v, hv⟩ : ∃ v, (l[i]).cells[j]? = some v := by
    match j, hj with
    | 0, _ | 1, _ | 2, _ | 3, _ | 4, _ | 5, _ | 6, _ | 7, _ | 8, _ | 9, _ | 10, _ | 11, _ => exact ⟨_, rfl⟩
  rw [hv] at h6 ⊢
  exact (hb.cell (World.block_lt_of_cell? _ _ h6)).trans h6
end Go.Proofs.YtmakjfeepmiggaaGreat

/-
  Grows: what is not there, what is over, without a world; the document's; a step.
-/
namespace Go.Proofs.YtmakjfeepmiggaaGreat
open Go.RowKit Go.Maps
set_option linter.unusedVariables false

/-- Is a Grow, a Swap, of a word over at once? -/
def gdead (t : Int) : Bool := asNow t != 0 || asOld t == 12
def sdead (t : Int) : Bool := asNow t == 0
theorem asNow_nn (t : Int) : 0 ≤ asNow t := by unfold asNow; split <;> omega
end Go.Proofs.YtmakjfeepmiggaaGreat

/-
  Grows: a step in a world. (written by gengrow.py)
-/
namespace Go.Proofs.YtmakjfeepmiggaaGreat
open Go.RowKit Go.Maps
set_option linter.unusedVariables false

theorem ws_set4 {w0 w : World} {B : WB} {V : WV} {s : CS} {b o : Nat} {cs : Array Value} {T : TypeId} (h : WS w0 w B V s) (hb : w.heap[b]? = some (.cells cs T (0, 0))) (hT : wTy T = false) (hlo : w0.heap.size ≤ b) (v : Value) : WS w0 (w.setCell ⟨b, o, none⟩ v) B V s :=
  h.fr (set_ty hb o v) (fun X hX => by cases hXT : (X == T); rfl; rw [beq_iff_eq] at hXT; subst hXT; rw [hX] at hT; cases hT) (set_below h.below h.below.size hlo o v)
theorem wu_of_wf {v : Int} (h : 0 ≤ v ∧ v < 18446744073709551616) : (Lit.int .u64 v).wf = true := bd_wf h

end Go.Proofs.YtmakjfeepmiggaaGreat

/-
  Grows: layer 19's examples.
-/
namespace Go.Proofs.YtmakjfeepmiggaaGreat
open Go.RowKit Go.Maps
set_option linter.unusedVariables false

theorem world12v (b : Int) (hb : 1 ≤ b ∧ b ≤ 12) (w : World) : Calls Tryz.prog 38 #[.int .i64 b] w fun e w' => ∃ B, e = .returned (.pointer (some ⟨B.wb, 0, none⟩)) ∧ WS w w' B (v0 ⟨b, 8, 3, 1, 16⟩) (CS.init [(2, tword b 0)]) := by
  have hn1 : Calls Tryz.prog 47 #[.agg #[.int .i64 b, .int .i64 8, .int .i64 3, .int .i64 1, .int .i64 16]] w fun e w' => ∃ B : WB, e = .returned (.tuple #[.pointer (some ⟨B.wb, 0, none⟩), .int .i64 0]) ∧ WS w w' B (v0 ⟨b, 8, 3, 1, 16⟩) (CS.init [(2, tword b 0)]) :=
    (wnew_ok ⟨b, 8, 3, 1, 16⟩ (by simp [Conf.ok]; omega) w).mono fun e w' ⟨wb, cb, ib, nb, he, g1, g2, g3, g4, g5, g6, g7⟩ => ⟨⟨wb, cb, ib, nb⟩, he, ws_of (Below.refl _ w) g1 g2 g3 g4 g5 g6 g7⟩
  clear hb
  go_enter Tryz.func38, Tryz.ntmps38
  go_wp2_with (go_at_call 47; with_reducible refine hn1.mono ?_; rintro e w1 ⟨B, rfl, h1⟩)
  go_ret
  exact ⟨_, rfl, h1⟩
theorem WS.slow {w0 w : World} {B : WB} {V : WV} {s : CS} (h : WS w0 w B V s) : w0.heap.size ≤ w.heap.size := h.below.size
end Go.Proofs.YtmakjfeepmiggaaGreat

/-
  Looks: layer 14's example.
-/
namespace Go.Proofs.YtmakjfeepmiggaaGreat
open Go.RowKit Go.Maps TagPure
set_option linter.unusedVariables false

def k14 : ByteArray := ⟨#[97]⟩
def x14 : LK := ⟨k14, hashOf k14, 2, .fst, 0, [], [], 0, [], 0, 0, 0, false, 0⟩
theorem k14_pl : (plist (hashOf k14) 1).length = 2 := by kernel_rfl
theorem k14_of : (vof (plist (hashOf k14) 1)).length = 2 := by kernel_rfl
theorem ex14 : (liter 40 (v0 ⟨1, 8, 3, 1, 16⟩) (CS.init [(2, tword 1 0)]) x14).1 = 9 := by kernel_rfl
theorem ex14g : (liter 40 (v0 ⟨1, 8, 3, 1, 16⟩) (CS.init [(2, tword 1 0)]) x14).2.2.2.got = (0, 0, 4) := by kernel_rfl
theorem ex14b : (liter 40 (v0 ⟨1, 8, 3, 1, 16⟩) (CS.init [(2, tword 1 0)]) x14).2.2.2.bad = false := by kernel_rfl
theorem LookAt.lower {w : World} {lo lo' fb : Nat} {x : LK} (h : LookAt w lo fb x) (hl : lo' ≤ lo) : LookAt w lo' fb x := by
  obtain ⟨h0, va, vv, vs, h1, h2, h3, h4, h5⟩ := h
  exact ⟨Nat.le_trans hl h0, va, vv, vs, h1, h2, own_lo h3 hl, h4, h5⟩
theorem LookE.below {w w' : World} {lo fb : Nat} {x : LK} (h : LookE w lo fb x) (hb : Below w.heap.size w w') : LookE w' lo fb x := by
  obtain ⟨a, ha⟩ := h; exact ⟨a, ha.below hb⟩
theorem lgotE {w : World} {lo fb : Nat} {x : LK} (h : LookE w lo fb x) : Calls Tryz.prog 95 #[.pointer (some ⟨fb, 0, none⟩)] w fun e w' => e = .returned (.tuple #[.int .i64 x.got.1, .int .u64 x.got.2.1, .int .i64 x.got.2.2]) ∧ Below w.heap.size w w' := by
  obtain ⟨a, ha⟩ := h; exact lgot (x := { x with vb := a }) ha
theorem lfailsE {w : World} {lo fb : Nat} {x : LK} (h : LookE w lo fb x) : Calls Tryz.prog 96 #[.pointer (some ⟨fb, 0, none⟩)] w fun e w' => e = .returned (.bool x.bad) ∧ w' = w := by
  obtain ⟨a, ha⟩ := h; exact lfails (x := { x with vb := a }) ha
/-- A new one holds. -/
theorem LOk.new (key : ByteArray) (m : Int) (hm : 0 ≤ m ∧ m < 9223372036854775808) (vb : Nat) : LOk ⟨key, hashOf key, m, .fst, 0, [], [], 0, [], 0, 0, 0, false, vb⟩ :=
  ⟨hm, hfold_bd _ _, Nat.zero_le _, Nat.zero_le _, fun p h => (by cases h), fun c => absurd rfl c, fun c => (by rcases c with c | c <;> cases c), fun c => (by rcases c with c | c <;> cases c), fun c => (by cases c), fun n h => (by cases h)⟩
set_option maxRecDepth 10000 in
set_option maxHeartbeats 4000000 in
theorem lives14 (w : World) : Calls Tryz.prog 24 #[] w fun e w' => e = .returned (.bool true) ∧ Below w.heap.size w w' := by
  have hH := Lib.hid (fun W => hash_any k14 (by decide) W)
  have hP := Lib.hid (fun W => places_any (hashOf k14) 1 (hfold_bd _ _).1 (hfold_bd _ _).2 (by decide) W)
  have hNL := Lib.hid (fun W => newlook k14 (by decide) 2 2 (by decide) W)
  have hK := k14_of
  obtain ⟨L, hL⟩ : ∃ L, L = plist (hashOf k14) 1 := ⟨_, rfl⟩
  have hl2 : L.length = 2 := by rw [hL]; exact k14_pl
  rw [← hL] at hP hK
  obtain ⟨A, hA⟩ : ∃ A, A = vof L := ⟨_, rfl⟩
  have hO := Lib.hid (fun W ao (h : Plc W ao L.length L) => of_any L ao L.length W h (by omega))
  rw [← hA] at hO hK
  have HK := Lib.hid hK
  clear hA hL hl2 hK
  go_enter Tryz.func24, Tryz.ntmps24
  go_upto_region 6 with (go_at_call 38; refine (world12v 1 (by decide) w).mono ?_; intro e w1 hh; obtain ⟨B, hh1, h1⟩ := hh; subst hh1; have H1 := Lib.hid h1; clear h1)
  go_loopw [2, 3] (fun v2 v3 wr => v2 = .string k14 ∧ v3 = .int .i64 0 ∧ WS w wr B (v0 ⟨1, 8, 3, 1, 16⟩) (CS.init [(2, tword 1 0)])) (fun _ _ _ => 0)
  case atStart => exact ⟨rfl, rfl, H1.out⟩
  case round =>
    obtain ⟨rfl, rfl, h2⟩ := hrel
    have H2 := Lib.hid h2
    clear h2 H1
    have hk2 : ((A.length : Int) != 2) = false := by rw [HK.out]; rfl
    have hk3 : ((A.length : Int) == 2) = true := by rw [HK.out]; rfl
    go_upto_region 10 with (first
      | (go_at_call 80; refine (hH.out _).mono ?_; intro e w3 hh; obtain ⟨hh1, b3⟩ := hh; subst hh1; have H3 := Lib.hid (H2.out.keep b3); clear b3 H2)
      | (go_at_call 81; refine (hP.out _).mono ?_; intro e w4 hh; obtain ⟨pv, hh1, hp, b4⟩ := hh; subst hh1; obtain ⟨ao, hpv, hpl⟩ := hp.plc; subst hpv; have H4 := Lib.hid (H3.out.keep b4); have HPL := Lib.hid hpl; clear b4 hp hpl H3)
      | (go_at_call 94; refine (hO.out _ _ HPL.out).mono ?_; intro e w5 hh; obtain ⟨av, hh1, ha, b5⟩ := hh; subst hh1; obtain ⟨aa, ga, rfl, -⟩ := adr_formL ha; have H5 := Lib.hid (H4.out.keep b5); clear b5 ha H4 HPL)
      | (go_at_call 25; refine (hNL.out _).mono ?_; intro e w6 hh; obtain ⟨fb, hh1, a6, b6⟩ := hh; subst hh1; have H6 := Lib.hid (H5.out.keep b6); have E6 : Hid (LookE w6 w.heap.size fb x14) := (a6.lower H5.out.slow).e; clear b6 a6 H5))
    have hrun := lrun 40 (by decide) 1 ⟨by decide, by decide⟩ (by unfold lim; decide) H6.out E6.out (LOk.new k14 2 (by decide) 0) (by decide) (by decide) (fun y hy => by cases hy)
    rw [ex14] at hrun
    obtain ⟨V9, hV9⟩ : ∃ V9, V9 = (liter 40 (v0 ⟨1, 8, 3, 1, 16⟩) (CS.init [(2, tword 1 0)]) x14).2.1 := ⟨_, rfl⟩
    obtain ⟨s9, hs9⟩ : ∃ s9, s9 = (liter 40 (v0 ⟨1, 8, 3, 1, 16⟩) (CS.init [(2, tword 1 0)]) x14).2.2.1 := ⟨_, rfl⟩
    obtain ⟨x9, hx9⟩ : ∃ x9, x9 = (liter 40 (v0 ⟨1, 8, 3, 1, 16⟩) (CS.init [(2, tword 1 0)]) x14).2.2.2 := ⟨_, rfl⟩
    have hg9 := ex14g
    have hb9 := ex14b
    rw [← hV9, ← hs9, ← hx9] at hrun
    rw [← hx9] at hg9 hb9
    have HG9 := Lib.hid hg9; have HB9 := Lib.hid hb9
    clear hV9 hs9 hx9 hg9 hb9
    go_upto_region 12 with (first
      | (go_at_call 39; refine hrun.mono ?_; intro e w7 hh; obtain ⟨hh1, h7, a7⟩ := hh; subst hh1; have H7 := Lib.hid h7; have E7 := Lib.hid a7; have hgt := lgotE a7; rw [HG9.out] at hgt; clear h7 a7 hrun H6 E6)
      | (go_at_call 95; refine hgt.mono ?_; intro e w8 hh; obtain ⟨hh1, b8⟩ := hh; subst hh1; have H8 := Lib.hid (H7.out.keep b8); have E8 := Lib.hid (E7.out.below b8); have hfl := lfailsE E8.out; rw [HB9.out] at hfl; clear b8 hgt H7 E7))
    go_wp2_with (first
      | (go_at_call 96; refine hfl.mono ?_; intro e w9 hh; obtain ⟨hh1, hh2⟩ := hh; subst hh1; obtain rfl := hh2.symm; clear hfl)
      | (go_at_call 80; refine (hH.out _).mono ?_; intro e w13 hh; obtain ⟨hh1, b3⟩ := hh; subst hh1; have H3 := Lib.hid (H8.out.keep b3); clear b3 H8)
      | (go_at_call 81; refine (hP.out _).mono ?_; intro e w14 hh; obtain ⟨pv, hh1, hp, b4⟩ := hh; subst hh1; obtain ⟨ao2, hpv, hpl⟩ := hp.plc; subst hpv; have H4 := Lib.hid (H3.out.keep b4); have HPL := Lib.hid hpl; clear b4 hp hpl H3)
      | (go_at_call 94; refine (hO.out _ _ HPL.out).mono ?_; intro e w15 hh; obtain ⟨av, hh1, ha, b5⟩ := hh; subst hh1; obtain ⟨aa2, ga2, rfl, -⟩ := adr_formL ha; have H5 := Lib.hid (H4.out.keep b5); clear b5 ha H4 HPL))
    go_ret
    exact ⟨rfl, H5.out.below⟩
end Go.Proofs.YtmakjfeepmiggaaGreat
