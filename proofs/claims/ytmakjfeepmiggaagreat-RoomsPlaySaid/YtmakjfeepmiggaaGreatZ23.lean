import Derived.Test.YtmakjfeepmiggaaGreatZ20
import Derived.Test.YtmakjfeepmiggaaGreatZ21
import Derived.Test.YtmakjfeepmiggaaGreatZ22
namespace Go.Proofs.YtmakjfeepmiggaaGreat
open Go.RowKit Go.Maps TagPure
set_option linter.unusedVariables false
def dln (σ : SL) : Int := if σ.tg = 0 ∨ σ.ln = 3 then 0 else σ.ln + 1
def RDgAt (w : World) (lo q : Nat) : Dg → Prop
  | .mark xs => lo ≤ q ∧ ∃ (all : List Int) (at_ : Nat), RMarkAt w lo q all at_ ∧ all.length ≤ 1000 ∧ at_ ≤ all.length ∧ xs = all.drop at_
  | .out σ => lo ≤ q ∧ ∃ (gone : Bool) (b u s : Int), (Lit.int .i64 s).wf = true ∧ ROp w q (dln σ) gone true b u s 0 0 σ.x ∧ (σ.tg = 0 ∨ (σ.tg = tagsA b u ∧ σ.it = itemA b u s ∧ σ.at_ = s))
  | .put σ g r => lo ≤ q ∧ ∃ (b u s g' r' : Int), (Lit.int .i64 s).wf = true ∧ ROp w q (dln σ) false false b u s g' r' σ.x ∧ (σ.tg = 0 ∨ (σ.tg = tagsA b u ∧ σ.it = itemA b u s ∧ σ.at_ = s ∧ g' = g ∧ r' = r))
def Dg.rty : Dg → TypeId
  | .mark _ => 319
  | _ => 321
def Dg.stepR (s : CS) (x : RS) : Dg → RS
  | .mark [] => x
  | .mark (a :: _) => x.acc 4 a (wu (s.val a + 1))
  | .out σ => if σ.ln = 0 then x.acc 1 σ.tg (s.val σ.tg) else if σ.ln = 1 then x.acc 2 σ.tg (TagPure.withOf σ.x σ.at_ 0) else x.acc 2 σ.it 0
  | .put σ g r => if σ.ln = 0 then x.acc 2 σ.it r else if σ.ln = 1 then x.acc 1 σ.tg (s.val σ.tg) else x.acc 2 σ.tg (TagPure.withOf σ.x σ.at_ g)
section
variable {w w' : World} {lo lo' q : Nat} {d : Dg}
theorem RDgAt.low (h : RDgAt w lo q d) : lo ≤ q := by cases d <;> exact h.1
theorem RDgAt.blk (h : RDgAt w lo q d) : ∃ cs, w.heap[q]? = some (.cells cs d.rty (0, 0)) := by
  cases d with
  | mark xs => obtain ⟨_, all, a, ⟨v, h1, -⟩, -⟩ := h; exact ⟨_, h1⟩
  | out σ => obtain ⟨_, g, b, u, s, _, h1, _⟩ := h; exact ⟨_, h1⟩
  | put σ g r => obtain ⟨_, b, u, s, g', r', _, h1, _⟩ := h; exact ⟨_, h1⟩
theorem RDgAt.lt (h : RDgAt w lo q d) : q < w.heap.size := by obtain ⟨cs, b1⟩ := h.blk; exact (Array.getElem?_eq_some_iff.1 b1).1
theorem Dg.rty_or (d : Dg) : d.rty = 319 ∨ d.rty = 321 := by cases d <;> simp [Dg.rty]
theorem RDgAt.keep (h : RDgAt w lo q d) (h1 : w'.heap[q]? = w.heap[q]?) (h2 : ∀ (k : Nat) (cs : Array Value) (fr : Nat × Nat), w.heap[k]? = some (.cells cs 39 fr) → w'.heap[k]? = some (.cells cs 39 fr)) : RDgAt w' lo q d := by
  cases d with
  | mark xs =>
    obtain ⟨l0, all, a, ⟨v, g1, g2⟩, r⟩ := h
    refine ⟨l0, all, a, ⟨v, h1.trans g1, ?_⟩, r⟩
    obtain ⟨c1, c2 | ⟨g, cap, cur, hv, hb, hg, r2⟩⟩ := g2
    · exact ⟨c1, .inl c2⟩
    · exact ⟨c1, .inr ⟨g, cap, cur, hv, hb, h2 _ _ _ hg, r2⟩⟩
  | out σ => obtain ⟨l0, g, b, u, s, h3, h4, h5⟩ := h; exact ⟨l0, g, b, u, s, h3, h1.trans h4, h5⟩
  | put σ g r => obtain ⟨l0, b, u, s, g', r', h3, h4, h5⟩ := h; exact ⟨l0, b, u, s, g', r', h3, h1.trans h4, h5⟩
theorem RDgAt.fr {K : TypeId → Bool} {mp : Bool} (h : RDgAt w lo q d) (hf : Fr K mp w w') (h1 : K 319 = false) (h2 : K 321 = false) (h3 : K 39 = false) : RDgAt w' lo q d := by
  obtain ⟨cs, b1⟩ := h.blk
  refine h.keep ?_ fun k cs fr hk => hf.cells _ _ _ _ hk h3
  rw [b1]
  exact hf.cells _ _ _ _ b1 (by rcases d.rty_or with e | e <;> rw [e] <;> assumption)
theorem RDgAt.below (h : RDgAt w lo q d) (hb : Below w.heap.size w w') : RDgAt w' lo q d := h.fr (below_fr hb (fun _ => false) false) rfl rfl rfl
theorem own_lo17 {e size n : Nat} {v : Value} {xs : List Value} (h : w.ownsRow lo e size v n xs) (hl : lo' ≤ lo) : w.ownsRow lo' e size v n xs := by
  obtain ⟨c1, c2 | ⟨g, cap, cur, hv, hb, r⟩⟩ := h
  · exact ⟨c1, .inl c2⟩
  · exact ⟨c1, .inr ⟨g, cap, cur, hv, Nat.le_trans hl hb, r⟩⟩
theorem RDgAt.lower (h : RDgAt w lo q d) (hl : lo' ≤ lo) : RDgAt w lo' q d := by
  cases d with
  | mark xs => obtain ⟨l0, all, a, ⟨v, g1, g2⟩, r⟩ := h; exact ⟨Nat.le_trans hl l0, all, a, ⟨v, g1, own_lo17 g2 hl⟩, r⟩
  | out σ => exact ⟨Nat.le_trans hl h.1, h.2⟩
  | put σ g r => exact ⟨Nat.le_trans hl h.1, h.2⟩
theorem RDgAt.line (h : RDgAt w lo q d) (hk : d.ok) : ∃ ln, w.cell? ⟨q, 0, none⟩ = some (.int .i64 ln) ∧ (ln == 0) = d.over := by
  have key : ∀ σ : SL, SOk σ → (dln σ == 0) = ((σ.tg == 0) || (σ.ln == 3)) := fun σ hσ => by
    unfold dln
    by_cases h1 : σ.tg = 0
    · rw [if_pos (.inl h1), h1]; rfl
    · have e1 : (σ.tg == 0) = false := beq_eq_false_iff_ne.2 h1
      rw [e1, Bool.false_or]
      by_cases h2 : σ.ln = 3
      · rw [if_pos (.inr h2), h2]; rfl
      · rw [if_neg (by rintro (c | c); exact h1 c; exact h2 c)]
        have e2 : (σ.ln == 3) = false := beq_eq_false_iff_ne.2 h2
        rw [e2]
        refine beq_eq_false_iff_ne.2 ?_
        rcases hσ.ln with c | c | c | c <;> omega
  cases d with
  | mark xs =>
    obtain ⟨l0, all, a, ⟨v, g1, g2⟩, hl, ha, rfl⟩ := h
    refine ⟨_, hcell g1 0, ?_⟩
    show ((if a < all.length then (1 : Int) else 0) == 0) = decide (all.drop a = [])
    by_cases h1 : a < all.length
    · rw [if_pos h1, decide_eq_false (fun c => by have := congrArg List.length c; simp at this; omega)]; rfl
    · rw [if_neg h1, decide_eq_true (List.drop_eq_nil_of_le (by omega))]; rfl
  | out σ => obtain ⟨l0, g, b, u, s, h3, h4, h5⟩ := h; exact ⟨_, hcell h4 0, key σ hk⟩
  | put σ g r => obtain ⟨l0, b, u, s, g', r', h3, h4, h5⟩ := h; exact ⟨_, hcell h4 0, key σ hk.1⟩
end
section
variable {w0 w : World} {R : WB} {V : WV} {s : CS} {x : RS} {q : Nat} (h : RD w0 w R V x) (hr : x.room) (hv : s.val = rlook x.l)
include h hr hv
theorem rdg_mark {xs : List Int} (hd : RDgAt w w0.heap.size q (.mark xs)) (ho : (Dg.mark xs).over = false) (hk : (Dg.mark xs).ok) : Calls Tryz.prog 172 #[.pointer (some ⟨q, 0, none⟩), .pointer (some ⟨R.wb, 0, none⟩)] w fun e w' => e = .returned (.tuple #[]) ∧ RD w0 w' R V ((Dg.mark xs).stepR s x) ∧ RDgAt w' w0.heap.size q ((Dg.mark xs).step s).2 ∧ Fx rTy false q w w' := by
  obtain ⟨l0, all, a, hm, hl, ha, rfl⟩ := hd
  have hat : a < all.length := by
    rcases Nat.lt_or_ge a all.length with c | c
    · exact c
    · have : (Dg.mark (all.drop a)).over = true := by show decide (all.drop a = []) = true; exact decide_eq_true (List.drop_eq_nil_of_le c)
      rw [this] at ho; cases ho
  have hc : all.drop a = all[a] :: all.drop (a + 1) := List.drop_eq_getElem_cons hat
  rw [hc] at hk ⊢
  refine (rmstep h hr l0 hm hat hl (hk _ List.mem_cons_self)).mono fun e w' hh => ?_
  obtain ⟨h1, h2, h3, h4⟩ := hh
  refine ⟨h1, ?_, ⟨l0, all, a + 1, h3, hl, hat, rfl⟩, h4⟩
  show RD w0 w' R V (x.acc 4 all[a] (wu (s.val all[a] + 1)))
  rw [hv]; exact h2
theorem rdg_out {σ : SL} (hd : RDgAt w w0.heap.size q (.out σ)) (ho : (Dg.out σ).over = false) (hk : (Dg.out σ).ok) : Calls Tryz.prog 173 #[.pointer (some ⟨q, 0, none⟩), .pointer (some ⟨R.wb, 0, none⟩)] w fun e w' => e = .returned (.tuple #[]) ∧ RD w0 w' R V ((Dg.out σ).stepR s x) ∧ RDgAt w' w0.heap.size q ((Dg.out σ).step s).2 ∧ Fx rTy false q w w' := by
  obtain ⟨l0, gone, b, u, t, hs, hO, hrel⟩ := hd
  have ho2 : (σ.tg == 0) = false ∧ (σ.ln == 3) = false := by
    have : ((σ.tg == 0) || (σ.ln == 3)) = false := ho
    simpa [Bool.or_eq_false_iff] using this
  have hz : σ.tg ≠ 0 := beq_eq_false_iff_ne.1 ho2.1
  have h3 : σ.ln ≠ 3 := beq_eq_false_iff_ne.1 ho2.2
  obtain ⟨r1, r2, r3⟩ := hrel.resolve_left hz
  have hk : SOk σ := hk
  have hd0 : dln σ = σ.ln + 1 := by unfold dln; rw [if_neg (by rintro (c | c); exact hz c; exact h3 c)]
  rw [hd0] at hO
  obtain ⟨tg, it, at_, xx, ln⟩ := σ
  simp only at r1 r2 r3 hO hz h3
  subst r1; subst r2; subst r3
  have hx := hk.x
  simp only at hx
  have hval : s.val (tagsA b u) = rlook x.l (tagsA b u) := by rw [hv]
  rcases hk.ln with e | e | e | e
  · simp only at e
    subst e
    refine (rout0 h hr hs l0 hx (by decide) hO).mono fun e w' hh => ?_
    obtain ⟨h1, h2, h4, h5⟩ := hh
    rw [← hval] at h2 h4
    exact ⟨h1, h2, ⟨l0, gone, b, u, at_, hs, by show ROp w' q (dln ⟨_, _, _, _, 1⟩) gone true b u at_ 0 0 _; unfold dln; rw [if_neg (by rintro (c | c); exact hz c; cases c)]; exact h4, .inr ⟨rfl, rfl, rfl⟩⟩, h5⟩
  · simp only at e
    subst e
    refine (rout1 h hr hs l0 hx (by decide) hO).mono fun e w' hh => ?_
    obtain ⟨h1, h2, h4, h5⟩ := hh
    exact ⟨h1, h2, ⟨l0, true, b, u, at_, hs, by show ROp w' q (dln ⟨_, _, _, _, 2⟩) true true b u at_ 0 0 _; unfold dln; rw [if_neg (by rintro (c | c); exact hz c; cases c)]; exact h4, .inr ⟨rfl, rfl, rfl⟩⟩, h5⟩
  · simp only at e
    subst e
    refine (rout2 h hr hs l0 hx (by decide) hO).mono fun e w' hh => ?_
    obtain ⟨h1, h2, h4, h5⟩ := hh
    exact ⟨h1, h2, ⟨l0, gone, b, u, at_, hs, by show ROp w' q (dln ⟨_, _, _, _, 3⟩) gone true b u at_ 0 0 _; unfold dln; rw [if_pos (.inr rfl)]; exact h4, .inr ⟨rfl, rfl, rfl⟩⟩, h5⟩
  · exact absurd e h3
theorem rdg_put {σ : SL} {g r : Int} (hd : RDgAt w w0.heap.size q (.put σ g r)) (ho : (Dg.put σ g r).over = false) (hk : (Dg.put σ g r).ok) : Calls Tryz.prog 173 #[.pointer (some ⟨q, 0, none⟩), .pointer (some ⟨R.wb, 0, none⟩)] w fun e w' => e = .returned (.tuple #[]) ∧ RD w0 w' R V ((Dg.put σ g r).stepR s x) ∧ RDgAt w' w0.heap.size q ((Dg.put σ g r).step s).2 ∧ Fx rTy false q w w' := by
  obtain ⟨l0, b, u, t, g', r', hs, hO, hrel⟩ := hd
  have ho2 : (σ.tg == 0) = false ∧ (σ.ln == 3) = false := by
    have : ((σ.tg == 0) || (σ.ln == 3)) = false := ho
    simpa [Bool.or_eq_false_iff] using this
  have hz : σ.tg ≠ 0 := beq_eq_false_iff_ne.1 ho2.1
  have h3 : σ.ln ≠ 3 := beq_eq_false_iff_ne.1 ho2.2
  obtain ⟨r1, r2, r3, rfl, rfl⟩ := hrel.resolve_left hz
  obtain ⟨hk, hr1, hr2⟩ := hk
  have hd0 : dln σ = σ.ln + 1 := by unfold dln; rw [if_neg (by rintro (c | c); exact hz c; exact h3 c)]
  rw [hd0] at hO
  obtain ⟨tg, it, at_, xx, ln⟩ := σ
  simp only at r1 r2 r3 hO hz h3
  subst r1; subst r2; subst r3
  have hx := hk.x
  simp only at hx
  have hval : s.val (tagsA b u) = rlook x.l (tagsA b u) := by rw [hv]
  rcases hk.ln with e | e | e | e
  · simp only at e
    subst e
    refine (rput0 h hr hs l0 hx ⟨hr1, hr2⟩ hO).mono fun e w' hh => ?_
    obtain ⟨h1, h2, h4, h5⟩ := hh
    exact ⟨h1, h2, ⟨l0, b, u, at_, g', r', hs, by show ROp w' q (dln ⟨_, _, _, _, 1⟩) false false b u at_ g' r' _; unfold dln; rw [if_neg (by rintro (c | c); exact hz c; cases c)]; exact h4, .inr ⟨rfl, rfl, rfl, rfl, rfl⟩⟩, h5⟩
  · simp only at e
    subst e
    refine (rput1 h hr hs l0 hx ⟨hr1, hr2⟩ hO).mono fun e w' hh => ?_
    obtain ⟨h1, h2, h4, h5⟩ := hh
    rw [← hval] at h2 h4
    exact ⟨h1, h2, ⟨l0, b, u, at_, g', r', hs, by show ROp w' q (dln ⟨_, _, _, _, 2⟩) false false b u at_ g' r' _; unfold dln; rw [if_neg (by rintro (c | c); exact hz c; cases c)]; exact h4, .inr ⟨rfl, rfl, rfl, rfl, rfl⟩⟩, h5⟩
  · simp only at e
    subst e
    refine (rput2 h hr hs l0 hx ⟨hr1, hr2⟩ hO).mono fun e w' hh => ?_
    obtain ⟨h1, h2, h4, h5⟩ := hh
    exact ⟨h1, h2, ⟨l0, b, u, at_, g', r', hs, by show ROp w' q (dln ⟨_, _, _, _, 3⟩) false false b u at_ g' r' _; unfold dln; rw [if_pos (.inr rfl)]; exact h4, .inr ⟨rfl, rfl, rfl, rfl, rfl⟩⟩, h5⟩
  · exact absurd e h3
end
end Go.Proofs.YtmakjfeepmiggaaGreat