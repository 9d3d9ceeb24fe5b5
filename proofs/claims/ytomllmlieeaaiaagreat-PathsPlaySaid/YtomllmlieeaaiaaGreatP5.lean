/-
  Texts of this prover, merged: WayPo, WayPoS, WaySame, WayPoN, WyActs, WayPlay.
-/
import Derived.Test.YtomllmlieeaaiaaGreatP2
import Derived.Test.YtomllmlieeaaiaaGreatP4
import Derived.Test.YtomllmlieeaaiaaGreatP3
import Derived.Test.YtomllmlieeaaiaaGreatOpen
import Derived.Deep.DeepCutAuto
import Derived.Deep.CutBlock
import Derived.Deep.RegionHeld2
/-
  PathsPlay: a Way of both sides: what it rests on.
-/
namespace Go.Proofs.YtomllmlieeaaiaaGreat
open Go.RowKit Go.Maps TagPure
set_option linter.unusedVariables false

/-- What both sides say: the Way; the block of the document's nodes. -/
structure WPd where
  x : WY
  kr : Nat
def wySet (o : PO WPd) (k : Nat) : Prop := k = o.pb ∨ k = o.rb ∨ k = o.a.x.kb ∨ k = o.a.kr ∨ o.a.x.mo = some k
def qWy (T : TypeId) : Bool := T == 187 || T == 56 || T == 3 || T == 192
def zWy (T : TypeId) : Bool := T == 71
def WyGood (x : WY) : Prop := WyOk x ∨ (x.made = false ∧ x.way = [] ∧ x.l = [] ∧ x.mo = none)
structure WyP (w : World) (lo : Nat) (o : PO WPd) (S : Nat → Prop) : Prop where
  x : WayAt w lo o.pb o.a.x
  r : RWayAt w lo o.rb o.a.kr o.a.x
  ok : WyGood o.a.x
  s : S = wySet o
theorem own_keepZ {Z : TypeId → Bool} {w w' : World} {lo e size n : Nat} {v : Value} {xs : List Value} (h : w.ownsRow lo e size v n xs) (hz : ZKeep Z w w') (he : Z e = true) : w'.ownsRow lo e size v n xs := by
  obtain ⟨c1, c2 | ⟨g, cap, cur, hv, hb, hg, r⟩⟩ := h
  · exact ⟨c1, .inl c2⟩
  · exact ⟨c1, .inr ⟨g, cap, cur, hv, hb, hz g cur _ _ hg he, r⟩⟩
theorem own_keepK {w w' : World} {lo e size n kb xb : Nat} {v : Value} {xs : List Value} (h : w.ownsRow lo e size v n xs) (hk : KbOk v kb xb) (he : w'.heap[kb]? = w.heap[kb]?) : w'.ownsRow lo e size v n xs := by
  obtain ⟨c1, c2 | ⟨g, cap, cur, rfl, hb, hg, r⟩⟩ := h
  · exact ⟨c1, .inl c2⟩
  · have hkg : kb = g := by
      rcases hk with e | ⟨e, -⟩
      · simp only [Value.ownBlock, Option.some.injEq] at e; exact e.symm
      · simp only [Value.ownBlock] at e; cases e
    subst hkg
    exact ⟨c1, .inr ⟨kb, cap, cur, rfl, hb, he.trans hg, r⟩⟩
theorem kb_blk {w : World} {lo e size n kb xb : Nat} {v : Value} {xs : List Value} (h : w.ownsRow lo e size v n xs) (hk : KbOk v kb xb) : kb = xb ∨ (lo ≤ kb ∧ ∃ cs, w.heap[kb]? = some (.cells cs e (0, 0))) := by
  rcases hk with e | ⟨-, e⟩
  · right
    obtain ⟨c1, ⟨rfl, -⟩ | ⟨g, cap, cur, rfl, hb, hg, r⟩⟩ := h
    · cases e
    · simp only [Value.ownBlock, Option.some.injEq] at e
      subst e; exact ⟨hb, _, hg⟩
  · exact .inl e
section
variable {w w' : World} {lo lo' xb b kr : Nat} {x : WY}
theorem WayAt.keepB (h : WayAt w lo xb x) (h1 : w'.heap[xb]? = w.heap[xb]?) (h2 : w'.heap[x.kb]? = w.heap[x.kb]?) (h3 : ∀ m, x.mo = some m → w'.heap[m]? = w.heap[m]?) (h4 : ZKeep zWy w w') : WayAt w' lo xb x := by
  obtain ⟨h0, ⟨vb, vw, b1, b2, b3, b4⟩, b5, b6, b7⟩ := h
  refine ⟨h0, ⟨vb, vw, h1.trans b1, own_keepK b2 b4 h2, own_keepZ b3 h4 rfl, b4⟩, fun m hm => ⟨(b5 m hm).1, (b5 m hm).2.keep (h3 m hm)⟩, b6, fun e => ?_⟩
  have := b7 e
  rw [hcell b1] at this
  rw [hcell (h1.trans b1)]; exact this
theorem RWayAt.keepB (h : RWayAt w lo b kr x) (h1 : w'.heap[b]? = w.heap[b]?) (h2 : w'.heap[kr]? = w.heap[kr]?) (h4 : ZKeep zWy w w') : RWayAt w' lo b kr x := by
  obtain ⟨h0, vl, vw, b1, b2, b3, b4⟩ := h
  exact ⟨h0, vl, vw, h1.trans b1, own_keepK b2 b4 h2, own_keepZ b3 h4 rfl, b4⟩
theorem RWayAt.lower (h : RWayAt w lo b kr x) (hl : lo' ≤ lo) : RWayAt w lo' b kr x := by
  obtain ⟨h0, vl, vw, h1, h2, h3, h4⟩ := h
  exact ⟨Nat.le_trans hl h0, vl, vw, h1, own_loW h2 hl, own_loW h3 hl, h4⟩
theorem WayAt.kbB (h : WayAt w lo xb x) : lo ≤ x.kb ∧ ∃ cs T, w.heap[x.kb]? = some (.cells cs T (0, 0)) ∧ (T = 187 ∨ T = 3) := by
  obtain ⟨h0, ⟨vb, vw, b1, b2, b3, b4⟩, -⟩ := h
  rcases kb_blk b2 b4 with e | ⟨e, cs, e2⟩
  · rw [e]; exact ⟨h0, _, _, b1, .inl rfl⟩
  · exact ⟨e, cs, _, e2, .inr rfl⟩
theorem RWayAt.krB (h : RWayAt w lo b kr x) : lo ≤ kr ∧ ∃ cs T, w.heap[kr]? = some (.cells cs T (0, 0)) ∧ (T = 56 ∨ T = 192) := by
  obtain ⟨h0, vl, vw, b1, b2, b3, b4⟩ := h
  rcases kb_blk b2 b4 with e | ⟨e, cs, e2⟩
  · rw [e]; exact ⟨h0, _, _, b1, .inl rfl⟩
  · exact ⟨e, cs, _, e2, .inr rfl⟩
theorem WayAt.blkB (h : WayAt w lo xb x) : ∃ cs, w.heap[xb]? = some (.cells cs 187 (0, 0)) := by
  obtain ⟨h0, ⟨vb, vw, b1, -⟩, -⟩ := h; exact ⟨_, b1⟩
theorem RWayAt.blkB (h : RWayAt w lo b kr x) : ∃ cs, w.heap[b]? = some (.cells cs 56 (0, 0)) := by
  obtain ⟨h0, vl, vw, b1, -⟩ := h; exact ⟨_, b1⟩
theorem RWayAt.setkb (h : RWayAt w lo b kr x) (kb : Nat) : RWayAt w lo b kr { x with kb := kb } := ⟨h.low, h.ex⟩
end
theorem wy_law : POLaw (α := WPd) 49 qWy zWy WyP where
  q := fun T hT => by
    unfold qWy at hT
    simp only [Bool.or_eq_true, beq_iff_eq] at hT
    rcases hT with ((rfl | rfl) | rfl) | rfl <;> exact ⟨rfl, by decide, by decide, rfl⟩
  z := fun T hT => by
    unfold zWy at hT
    rw [beq_iff_eq] at hT
    subst hT
    exact ⟨rfl, by decide⟩
  ot := ⟨rfl, by decide⟩
  keep := fun {w w' lo o S} h hs hk hz => by
    have e := h.s
    have k : ∀ k, wySet o k → w'.heap[k]? = w.heap[k]? := fun k hk2 => hk k (by rw [e]; exact hk2)
    exact ⟨h.x.keepB (k _ (.inl rfl)) (k _ (.inr (.inr (.inl rfl)))) (fun m hm => k _ (.inr (.inr (.inr (.inr hm))))) hz, h.r.keepB (k _ (.inr (.inl rfl))) (k _ (.inr (.inr (.inr (.inl rfl))))) hz, h.ok, e⟩
  lo := fun {w lo o S k} h hk => by
    rw [h.s] at hk
    rcases hk with rfl | rfl | rfl | rfl | hk
    · exact h.x.low
    · exact h.r.low
    · exact h.x.kbB.1
    · exact h.r.krB.1
    · exact (h.x.mp _ hk).1
  lower := fun {w lo lo' o S} h hl => ⟨h.x.lower hl, h.r.lower hl, h.ok, h.s⟩
  blk := fun {w lo o S k} h hk => by
    rw [h.s] at hk
    rcases hk with rfl | rfl | rfl | rfl | hk
    · obtain ⟨cs, e⟩ := h.x.blkB; exact .inl ⟨_, _, _, e, rfl⟩
    · obtain ⟨cs, e⟩ := h.r.blkB; exact .inl ⟨_, _, _, e, rfl⟩
    · obtain ⟨-, cs, T, e, hT⟩ := h.x.kbB
      exact .inl ⟨_, _, _, e, by rcases hT with rfl | rfl <;> rfl⟩
    · obtain ⟨-, cs, T, e, hT⟩ := h.r.krB
      exact .inl ⟨_, _, _, e, by rcases hT with rfl | rfl <;> rfl⟩
    · obtain ⟨es, cl, e⟩ := (h.x.mp _ hk).2.blk
      exact .inr ⟨es, cl, e⟩
end Go.Proofs.YtomllmlieeaaiaaGreat

/-
  PathsPlay: a step of a Way, on both sides.
-/
namespace Go.Proofs.YtomllmlieeaaiaaGreat
open Go.RowKit Go.Maps TagPure
set_option linter.unusedVariables false

theorem wstep_off {w : World} {lo xb : Nat} {x : WY} (h : WayAt w lo xb x) (ho : (!x.made || x.over) = true) (u : Value) : Calls Tryz.prog 20 #[.pointer (some ⟨xb, 0, none⟩), u] w fun e w' => e = .returned (.bool true) ∧ w' = w := by
  have hov := wover h
  rw [ho] at hov
  clear h ho
  go_enter Tryz.func20, Tryz.ntmps20
  go_wp2_with (go_at_call 85; refine hov.mono ?_; intro e w2 hh; obtain ⟨hh1, hh2⟩ := hh; subst hh1; obtain rfl := hh2.symm)
  go_ret
  exact ⟨rfl, rfl⟩
/-- What a step makes of it. -/
def WY.nxt (x : WY) (v : Int) : WY := if (!x.made || x.over) = true then x else x.next v
theorem DPS.fm {w0 w w' : World} {B R : WB} {V : WV} {s s' : CS} {x x' : RS} {m m' : Nat} (h : DPS w0 w B R V s x m) (l : List (Nat × Array MapEntry × Nat)) (h2 : DPS w0 w' B R V s' x' m') (hp : Pr w0 w' B R { V with fm := l } s' x') : DPS w0 w' B R { V with fm := l } s' x' m' := ⟨hp, h2.far, h2.cok, h2.nn, h2.ni, h2.st, h2.nk⟩
theorem fz_fr {b c : Nat} {w w' : World} (h : Fz b c w w') {cb cc : Array Value} {T : TypeId} (hb : w.heap[b]? = some (.cells cb 56 (0, 0))) (hc : w.heap[c]? = some (.cells cc T (0, 0))) (hT : T = 56 ∨ T = 192) :
    Fr (fun X => rTy X || (X == 56 || X == 192)) false w w' := by
  refine ⟨h.size, fun k cs X fr hk hX => ?_, fun _ => h.map⟩
  simp only [Bool.or_eq_false_iff, beq_eq_false_iff_ne] at hX
  refine h.cells k cs X fr hk hX.1 (fun e => ?_) (fun e => ?_)
  · subst e; exact hX.2.1 (ocell_ty hk hb)
  · subst e
    have := ocell_ty hk hc
    rcases hT with e | e <;> rw [e] at this
    · exact hX.2.1 this
    · exact hX.2.2 this
theorem fy_frW {b c : Nat} {w w' : World} (h : Fy b c w w') {cb cc : Array Value} {T : TypeId} (hb : w.heap[b]? = some (.cells cb 187 (0, 0))) (hc : w.heap[c]? = some (.cells cc T (0, 0))) (hT : T = 187 ∨ T = 3) :
    Fr (fun X => wTy X || (X == 187 || X == 3)) true w w' := by
  refine ⟨h.size, fun k cs X fr hk hX => ?_, fun c => by cases c⟩
  simp only [Bool.or_eq_false_iff, beq_eq_false_iff_ne] at hX
  refine h.cells k cs X fr hk hX.1 (fun e => ?_) (fun e => ?_)
  · subst e; exact hX.2.1 (ocell_ty hk hb)
  · subst e
    have := ocell_ty hk hc
    rcases hT with e | e <;> rw [e] at this
    · exact hX.2.1 this
    · exact hX.2.2 this
theorem w_not_q16 (T : TypeId) (h : wTy T = true) : (rTy T || (T == 56 || T == 192)) = false := by
  rw [w_not_r T h, Bool.false_or]
  unfold wTy at h
  simp only [Bool.or_eq_true, beq_iff_eq] at h
  rcases h with ((((((rfl | rfl) | rfl) | rfl) | rfl) | rfl) | rfl) | rfl <;> rfl
theorem r_not_q16 (T : TypeId) (h : rTy T = true) : (wTy T || (T == 187 || T == 3)) = false := by
  rw [r_not_w T h, Bool.false_or]
  unfold rTy at h
  simp only [Bool.or_eq_true, beq_iff_eq] at h
  rcases h with (((((rfl | rfl) | rfl) | rfl) | rfl) | rfl) | rfl <;> rfl
theorem y_not_q16 (T : TypeId) (h : yTy T = true) : (rTy T || (T == 56 || T == 192)) = false := by
  unfold yTy at h
  simp only [Bool.or_eq_true, beq_iff_eq] at h
  rcases h with (rfl | rfl) | rfl <;> rfl
theorem ry_not_q16 (T : TypeId) (h : ryTy T = true) : (wTy T || (T == 187 || T == 3)) = false := by
  unfold ryTy at h
  simp only [Bool.or_eq_true, beq_iff_eq] at h
  rcases h with (rfl | rfl) | rfl <;> rfl
/-- Between the two steps. -/
structure WMid (w0 w : World) (B R : WB) (V : WV) (s : CS) (x : RS) (o : PO WPd) (w' : World) : Prop where
  ws : WS w0 w' B V s
  wx : WayAt w' w0.heap.size o.pb o.a.x
  fz : Fz o.rb o.a.kr w w'
  ex : ∃ kr', RD w0 w' R V (if (!o.a.x.made || o.a.x.over) = true then x else x.acc 1 (wyA o.a.x) (rlook x.l (wyA o.a.x))) ∧ RWayAt w' w0.heap.size o.rb kr' (o.a.x.nxt (rlook x.l (wyA o.a.x))) ∧ (kr' = o.a.kr ∨ w.heap.size ≤ kr')
section
variable {w0 w w1 : World} {B R : WB} {V : WV} {s : CS} {x : RS} {m : Nat} {o : PO WPd} {S : Nat → Prop}
theorem wgood_off (h : WyGood o.a.x) (ho : (!o.a.x.made || o.a.x.over) = false) : WyOk o.a.x ∧ o.a.x.over = false := by
  simp only [Bool.or_eq_false_iff, Bool.not_eq_false'] at ho
  rcases h with h | h
  · exact ⟨h, ho.2⟩
  · rw [h.1] at ho; cases ho.1
theorem wo_r (h : DPS w0 w B R V s x m) (hm : m ≤ 1000) (ho : WyP w w0.heap.size o S) :
    Calls Tryz.prog 19 #[.pointer (some ⟨o.rb, 0, none⟩), .pointer (some ⟨R.wb, 0, none⟩)] w fun e w' => e = .returned (.tuple #[]) ∧ WMid w0 w B R V s x o w' := by
  obtain ⟨rm1, rm2⟩ := far_rooms h.far h.pr.al (by omega)
  by_cases hov : (!o.a.x.made || o.a.x.over) = true
  · refine (rstep_off ho.r hov _).mono fun e w' ⟨h1, h2⟩ => ?_
    subst h2
    refine ⟨h1, h.pr.ws, ho.x, ⟨Nat.le_refl _, fun _ _ _ _ h _ _ _ => h, fun _ _ _ h => h⟩, o.a.kr, ?_, ?_, .inl rfl⟩
    · rw [if_pos hov]; exact h.pr.rd
    · unfold WY.nxt; rw [if_pos hov]; exact ho.r
  · have hov' : (!o.a.x.made || o.a.x.over) = false := by simpa using hov
    obtain ⟨hk, hoo⟩ := wgood_off ho.ok hov'
    have hb := wf_bd (h.pr.ws.own.wf (wyA o.a.x))
    rw [h.pr.al.val] at hb
    refine (rstep_any h.pr.rd rm2 ho.r hk hoo _ rfl hb).mono fun e w' hh => ?_
    obtain ⟨h1, kr', h2, h3, h4, h5⟩ := hh
    obtain ⟨cb, e1⟩ := ho.r.blkB
    obtain ⟨-, cc, T, e2, hT⟩ := ho.r.krB
    have hf := fz_fr h5 e1 e2 hT
    refine ⟨h1, h.pr.ws.fr hf w_not_q16 h2.below, ho.x.fr hf y_not_q16, h5, kr', ?_, ?_, h4⟩
    · rw [if_neg hov]; exact h2
    · unfold WY.nxt; rw [if_neg hov]; exact h3
/-- Behind both steps. -/
def WFin (w0 w : World) (B R : WB) (V : WV) (x : RS) (m : Nat) (o : PO WPd) (S : Nat → Prop) (w2 : World) : Prop :=
  ∃ (V' : WV) (s' : CS) (x' : RS) (kb kr : Nat) (S' : Nat → Prop), DPS w0 w2 B R V' s' x' (m + 1) ∧ WyP w2 w0.heap.size ⟨o.pb, o.rb, ⟨{ o.a.x.nxt (rlook x.l (wyA o.a.x)) with kb := kb }, kr⟩⟩ S' ∧ MapsIn w2 V' S' ∧ (∀ k, S' k → S k ∨ w.heap.size ≤ k) ∧ OFr S V V' w w2
theorem wo_x (h : DPS w0 w B R V s x m) (hm : m ≤ 1000) (ho : WyP w w0.heap.size o S) (hmp : MapsIn w V S) (hM : WMid w0 w B R V s x o w1) :
    Calls Tryz.prog 20 #[.pointer (some ⟨o.pb, 0, none⟩), .pointer (some ⟨B.wb, 0, none⟩)] w1 fun e w2 => e = .returned (.bool (!(o.a.x.nxt (rlook x.l (wyA o.a.x))).made || (o.a.x.nxt (rlook x.l (wyA o.a.x))).over)) ∧ WFin w0 w B R V x m o S w2 := by
  obtain ⟨rm1, rm2⟩ := far_rooms h.far h.pr.al (by omega)
  obtain ⟨hws, hwx, hfz, kr', hrd, hrx, hkr⟩ := hM
  have hnoS : ∀ k, ¬ S k → k ≠ o.pb ∧ k ≠ o.rb ∧ k ≠ o.a.x.kb ∧ k ≠ o.a.kr ∧ o.a.x.mo ≠ some k := fun k hk => by
    rw [ho.s] at hk
    exact ⟨fun e => hk (.inl e), fun e => hk (.inr (.inl e)), fun e => hk (.inr (.inr (.inl e))), fun e => hk (.inr (.inr (.inr (.inl e)))), fun e => hk (.inr (.inr (.inr (.inr e))))⟩
  have hS : ∀ k, wySet o k → S k := fun k hk => by rw [ho.s]; exact hk
  by_cases hov : (!o.a.x.made || o.a.x.over) = true
  · have en : o.a.x.nxt (rlook x.l (wyA o.a.x)) = o.a.x := by unfold WY.nxt; rw [if_pos hov]
    rw [if_pos hov] at hrd
    rw [en] at hrx ⊢
    rw [hov]
    refine (wstep_off hwx hov _).mono fun e w2 ⟨h1, h2⟩ => ?_
    subst h2
    have h9 := h.le (Nat.le_succ m)
    refine ⟨h1, V, s, x, o.a.x.kb, kr', wySet ⟨o.pb, o.rb, ⟨o.a.x, kr'⟩⟩, ⟨⟨hws, hrd, h.pr.al⟩, h9.far, h9.cok, h9.nn, h9.ni, h9.st, h9.nk⟩, ?_, ?_, ?_, ?_⟩
    · show WyP w2 w0.heap.size ⟨o.pb, o.rb, ⟨{ o.a.x.nxt (rlook x.l (wyA o.a.x)) with kb := o.a.x.kb }, kr'⟩⟩ _
      rw [en]
      exact ⟨hwx, hrx, ho.ok, rfl⟩
    · intro k es cl hk he
      rcases hk with rfl | rfl | rfl | rfl | hk
      · obtain ⟨cs, e⟩ := hwx.blkB; (try simp only at he); rw [e] at he; cases he
      · obtain ⟨cs, e⟩ := hrx.blkB; (try simp only at he); rw [e] at he; cases he
      · obtain ⟨-, cs, T, e, -⟩ := hwx.kbB; (try simp only at he); rw [e] at he; cases he
      · obtain ⟨-, cs, T, e, -⟩ := hrx.krB; (try simp only at he); rw [e] at he; cases he
      · obtain ⟨es2, cl2, e⟩ := (ho.x.mp k hk).2.blk
        have e2 := hfz.map _ _ _ e
        rw [e2] at he
        simp only [Option.some.injEq, Obj.map.injEq] at he
        obtain ⟨rfl, rfl⟩ := he
        exact hmp k _ _ (hS k (.inr (.inr (.inr (.inr hk))))) e
    · intro k hk
      rcases hk with rfl | rfl | rfl | rfl | hk
      · exact .inl (hS _ (.inl rfl))
      · exact .inl (hS _ (.inr (.inl rfl)))
      · exact .inl (hS _ (.inr (.inr (.inl rfl))))
      · rcases hkr with e | e
        · simp only [e]; exact .inl (hS _ (.inr (.inr (.inr (.inl rfl)))))
        · exact .inr e
      · exact .inl (hS _ (.inr (.inr (.inr (.inr hk)))))
    · refine ⟨hfz.size, fun k cs T fr hk hT hn => ?_, fun k es cl hk hv hn => ⟨hfz.map _ _ _ hk, hv⟩⟩
      obtain ⟨n1, n2, n3, n4, n5⟩ := hnoS k hn
      exact hfz.cells k cs T fr hk (by unfold wrTy at hT; simp only [Bool.or_eq_false_iff] at hT; exact hT.2) n2 n4
  · have hov' : (!o.a.x.made || o.a.x.over) = false := by simpa using hov
    obtain ⟨hk, hoo⟩ := wgood_off ho.ok hov'
    rw [if_neg hov] at hrd
    have en : o.a.x.nxt (rlook x.l (wyA o.a.x)) = o.a.x.next (rlook x.l (wyA o.a.x)) := by unfold WY.nxt; rw [if_neg hov]
    rw [en] at hrx ⊢
    obtain ⟨mb, hmb⟩ := ho.x.isMap hk.made
    obtain ⟨es0, cl0, hm0⟩ := (ho.x.mp mb hmb).2.blk
    have hmS : S mb := hS _ (.inr (.inr (.inr (.inr hmb))))
    have hin := hmp mb es0 cl0 hmS hm0
    have hne : w1.cell? ⟨B.cb, 0, none⟩ ≠ some (.map (some mb)) := (hws.fmk _ hin).2
    have hws1 : WS w0 w1 B { V with fm := V.fm.filter (fun q => q.1 != mb) } s := hws.less _ fun q hq => (List.mem_filter.1 hq).1
    have hbs : Besd w1 B { V with fm := V.fm.filter (fun q => q.1 != mb) } mb := ⟨hne, fun q hq => by simpa using (List.mem_filter.1 hq).2⟩
    have hval : s.val (wyA o.a.x) = rlook x.l (wyA o.a.x) := by rw [h.pr.al.val]
    have hst := wstep_any hws1 rm1 hwx hmb hbs hk hoo
    rw [hval] at hst
    have hnk : WyOk (o.a.x.next (rlook x.l (wyA o.a.x))) := hk.next (tab := fun _ => rlook x.l (wyA o.a.x)) hoo
    have hmade : (!(o.a.x.next (rlook x.l (wyA o.a.x))).made || (o.a.x.next (rlook x.l (wyA o.a.x))).over) = (o.a.x.next (rlook x.l (wyA o.a.x))).over := by rw [hnk.made]; rfl
    rw [hmade]
    refine hst.mono fun e w2 hh => ?_
    obtain ⟨kb, h1, h2, h3, h4, h5, h6⟩ := hh
    obtain ⟨cb, e1⟩ := hwx.blkB
    obtain ⟨-, cc, T, e2, hT⟩ := hwx.kbB
    have hf := fy_frW h5 e1 e2 hT
    have hmo : (o.a.x.next (rlook x.l (wyA o.a.x))).mo = some mb := (next_mo _ _).1.trans hmb
    obtain ⟨es2, cl2, hm2⟩ := (h3.mp mb hmo).2.blk
    have hws2 := h2.more hm2 h4.ne
    have hrd2 := hrd.fr hf r_not_q16 h2.below
    have hrx2 := hrx.fr hf ry_not_q16
    have hfar : Far (s.acc 1 (wyA o.a.x) (rlook x.l (wyA o.a.x))) (x.acc 1 (wyA o.a.x) (rlook x.l (wyA o.a.x))) (300 + (m + 1)) := by have := h.far.acc h.pr.al 1 (wyA o.a.x) (rlook x.l (wyA o.a.x)); rw [Nat.add_assoc] at this; exact this
    refine ⟨h1, { V with fm := (mb, es2, cl2) :: V.fm.filter (fun q => q.1 != mb) }, _, _, kb, kr', wySet ⟨o.pb, o.rb, ⟨{ o.a.x.next (rlook x.l (wyA o.a.x)) with kb := kb }, kr'⟩⟩, ⟨⟨hws2, ⟨hrd2.below, hrd2.ref, hrd2.blk, hrd2.lo, hrd2.ar, hrd2.nt, hrd2.tkl⟩, h.pr.al.acc _ _ _⟩, hfar, h.cok, Nat.le_succ_of_le h.nn, ?_, h.st.le (by simp only [CS.acc]; omega), h.nk⟩, ?_, ?_, ?_, ?_⟩
    · have := h.ni; show V.its.length ≤ _; omega
    · rw [en]
      exact ⟨h3, hrx2.setkb kb, .inl ⟨hnk.bits, hnk.win, hnk.ahead, hnk.at_, hnk.way, hnk.wayl, hnk.made⟩, rfl⟩
    · intro k es cl hk he
      rcases hk with rfl | rfl | rfl | rfl | hk
      · obtain ⟨cs, e⟩ := h3.blkB; (try simp only at he); rw [e] at he; cases he
      · obtain ⟨cs, e⟩ := hrx2.blkB; (try simp only at he); rw [e] at he; cases he
      · obtain ⟨-, cs, T, e, -⟩ := h3.kbB; (try simp only at he e); rw [e] at he; cases he
      · obtain ⟨-, cs, T, e, -⟩ := hrx2.krB; (try simp only at he); rw [e] at he; cases he
      · simp only at hk
        rw [hmo] at hk
        cases hk
        rw [hm2] at he
        simp only [Option.some.injEq, Obj.map.injEq] at he
        obtain ⟨rfl, rfl⟩ := he
        exact List.mem_cons_self
    · intro k hk
      rcases hk with rfl | rfl | rfl | rfl | hk
      · exact .inl (hS _ (.inl rfl))
      · exact .inl (hS _ (.inr (.inl rfl)))
      · rcases h6 with e | e
        · simp only [e]; exact .inl (hS _ (.inr (.inr (.inl rfl))))
        · exact .inr (Nat.le_trans hfz.size e)
      · rcases hkr with e | e
        · simp only [e]; exact .inl (hS _ (.inr (.inr (.inr (.inl rfl)))))
        · exact .inr e
      · simp only at hk
        rw [hmo, ← hmb] at hk
        exact .inl (hS _ (.inr (.inr (.inr (.inr hk)))))
    · refine ⟨Nat.le_trans hfz.size h5.size, fun k cs T fr hk hT hn => ?_, fun k es cl hk hv hn => ?_⟩
      · obtain ⟨n1, n2, n3, n4, n5⟩ := hnoS k hn
        unfold wrTy at hT
        simp only [Bool.or_eq_false_iff] at hT
        exact h5.cells k cs T fr (hfz.cells k cs T fr hk hT.2 n2 n4) hT.1 n1 n3
      · obtain ⟨n1, n2, n3, n4, n5⟩ := hnoS k hn
        have hf1 : (k, es, cl) ∈ V.fm.filter (fun q => q.1 != mb) := List.mem_filter.2 ⟨hv, by
          have : k ≠ mb := fun e => n5 (by rw [e]; exact hmb)
          simpa using this⟩
        exact ⟨(h2.fmk _ hf1).1, List.mem_cons_of_mem _ hf1⟩
end
end Go.Proofs.YtomllmlieeaaiaaGreat

/-
  PathsPlay: do both sides tell the same?
-/
namespace Go.Proofs.YtomllmlieeaaiaaGreat
open Go.RowKit Go.Maps Go.Sort
set_option linter.unusedVariables false

section
variable {P : Program}
/-- 'append(nil, x...)': a copy. -/
theorem wp_append_cpW {o : Oper} {a : Act} {w : World} {K : Act → World → Prop} {Q : Exit → Act → World → Prop} (s x : Operand) (t : TypeId)
    (ho : o.op = .call { callee := .builtin .append, args := #[s, x], argTypes := #[t, t] })
    (e : TypeId) (i : TypeInfo) (z : Value) (size bytes : Nat) (ht : P.underlying t = some (.slice e)) (hi : P.info? e = some i) (hz : i.zero = some z)
    (hsize : i.size = size) (hby : i.bytes = bytes) (hzs : z.cells.size = size) (hsz : 0 < size)
    (hs : a.eval s = .slice none 0 0) (ax : Option Addr) (m c : Nat) (news : List Value) (hx : a.eval x = .slice ax m c) (hl : news.length = m * size)
    (hn : m = 0 ∨ ∃ ad, ax = some ad ∧ ∀ j u, news[j]? = some u → w.cell? (ad.add j) = some u) (h1 : ∀ u ∈ news, u.oneCell' = true)
    (h63 : m ≤ maxLen) (hbytes : m * bytes ≤ 140737488355328)
    (h : ∀ ag cap w', w'.ownsRow w.heap.size e size (.slice ag m cap) m news → Below w.heap.size w w' → K (a.put o.dst (.slice ag m cap)) w') : o.wp P a w K Q := by
  by_cases hm : m = 0
  · subst hm
    have hnil : news = [] := List.length_eq_zero_iff.1 (by omega)
    subst hnil
    have hrun : (Builtin.append_ #[t, t] o.type #[.slice none 0 0, .slice ax 0 c]).run P w = .ok (.slice none 0 0) w := by
      cases ax with
      | none => simp [Builtin.append_, run_underlying ht, sizeOf, typeInfo, hi, Builtin.lenOf, Builtin.firstCells]
      | some ad =>
        have hfc := run_firstCells_some (P := P) w i.size 0 ad 0 c [] (by simp) (fun j u hj => by simp at hj)
        simp [Builtin.append_, run_underlying ht, sizeOf, typeInfo, hi, Builtin.lenOf, hfc]
    unfold Oper.wp
    simp [execOp, ho, resolve, invoke, builtin, hs, hx, hrun, Result.andThen]
    exact h none 0 w (World.ownsRow_nil _ _ _ _) (Below.refl _ _)
  · rcases hn with hn | ⟨ad, rfl, hn⟩
    · exact absurd hn hm
    refine wp_append_lies w s x t ho w.heap.size e i z size bytes ht hi hz hsize hby hzs hsz _ 0 [] hs (World.ownsRow_nil _ _ _ _) ad m c news hx hl hn h1 (by omega) (by omega) (by rw [Nat.zero_add]; exact hbytes) (Nat.le_refl _) _ rfl ?_
    intro g cap w' hown hgrow _ _
    simp only [Nat.zero_add, List.nil_append] at hown ⊢
    exact h _ cap w' hown ((Below.refl _ _).grown hgrow (Nat.le_refl _) (fun j hj => by simp [Value.ownBlock] at hj))
theorem wpList_append_cpW {ops : Array Oper} {rest : List Oper} {o : Oper} {a : Act} {w : World} {Q : Exit → Act → World → Prop} (hgd : o.guard = none) (s x : Operand) (t : TypeId)
    (ho : o.op = .call { callee := .builtin .append, args := #[s, x], argTypes := #[t, t] })
    (e : TypeId) (i : TypeInfo) (z : Value) (size bytes : Nat) (ht : P.underlying t = some (.slice e)) (hi : P.info? e = some i) (hz : i.zero = some z)
    (hsize : i.size = size) (hby : i.bytes = bytes) (hzs : z.cells.size = size) (hsz : 0 < size)
    (hs : a.eval s = .slice none 0 0) (ax : Option Addr) (m c : Nat) (news : List Value) (hx : a.eval x = .slice ax m c) (hl : news.length = m * size)
    (hn : m = 0 ∨ ∃ ad, ax = some ad ∧ ∀ j u, news[j]? = some u → w.cell? (ad.add j) = some u) (h1 : ∀ u ∈ news, u.oneCell' = true)
    (h63 : m ≤ maxLen) (hbytes : m * bytes ≤ 140737488355328)
    (h : ∀ ag cap w', w'.ownsRow w.heap.size e size (.slice ag m cap) m news → Below w.heap.size w w' → wpList P ops Q rest (a.put o.dst (.slice ag m cap)) w') : wpList P ops Q (o :: rest) a w :=
  wpList_plain hgd fun _ hK => wp_append_cpW s x t ho e i z size bytes ht hi hz hsize hby hzs hsz hs ax m c news hx hl hn h1 h63 hbytes fun ag cap w' h2 h3 => hK _ _ (h ag cap w' h2 h3)
end
theorem spots_news {w : World} {lo : Nat} {v : Value} {bits : Int} {l : List (Int × Int)} (h : w.ownsRow lo 71 3 v l.length (flatS bits l)) : ∃ ax c, v = .slice ax l.length c ∧ (l.length = 0 ∨ ∃ ad, ax = some ad ∧ ∀ j u, (flatS bits l)[j]? = some u → w.cell? (ad.add j) = some u) := by
  obtain ⟨_, ⟨rfl, h0⟩ | ⟨g, cap, cur, rfl, hb, hg, hn, hm, hs, ht⟩⟩ := h
  · exact ⟨none, 0, by rw [h0], .inl h0⟩
  · refine ⟨_, cap, rfl, .inr ⟨_, rfl, fun j u hj => ?_⟩⟩
    have hj2 : j < (flatS bits l).length := (List.getElem?_eq_some_iff.1 hj).1
    rw [flatS_len] at hj2
    have ea : (⟨g, 0, none⟩ : Addr).add j = ⟨g, 0 + j, none⟩ := by simp [Addr.add]; omega
    rw [ea, Nat.zero_add, hcell hg]
    rw [← ht, List.getElem?_take, if_pos hj2] at hj
    rw [← hj]; simp
set_option maxRecDepth 10000 in
theorem rgot {w : World} {lo b kr : Nat} {x : WY} (h : RWayAt w lo b kr x) (hl : x.way.length ≤ 100000) : Calls Tryz.prog 84 #[.pointer (some ⟨b, 0, none⟩)] w fun e w' => ∃ v, e = .returned v ∧ w'.ownsRow w.heap.size 71 3 v x.way.length (flatS x.bits x.way) ∧ Below w.heap.size w w' := by
  obtain ⟨i0, hi0, hz0, hz1, hz2⟩ := info_parts info_spot3
  have HI := Lib.hid hi0; have HZ0 := Lib.hid hz0; have HZ1 := Lib.hid hz1; have HZ2 := Lib.hid hz2
  obtain ⟨_, vl, vw, h1, -, h3, -⟩ := h
  obtain ⟨ax, c, rfl, hnews⟩ := spots_news h3
  have c5 : w.cell? ⟨b, 5, none⟩ = some (.slice ax x.way.length c) := hcell h1 5
  have HN := Lib.hid hnews; have HL := Lib.hid hl
  clear hi0 hz0 hz1 hz2 h1 h3 hnews hl
  go_enter Tryz.func84, Tryz.ntmps84
  go_wp2_with (at_builtin; refine wpList_append_cpW rfl _ _ 54 rfl 71 i0 (.agg #[.int .i64 0, .int .i64 0, .int .i64 0]) 3 24 Tryz.underlying54 HI.out HZ0.out HZ1.out HZ2.out rfl (by decide) rfl ax x.way.length c (flatS x.bits x.way) rfl (flatS_len _ _) HN.out (flatS_one _ _) (by have := HL.out; unfold maxLen; omega) (by have := HL.out; omega) ?_; intro ag cap w2 hown hb2; have HO := Lib.hid hown; have HB := Lib.hid hb2; clear hown hb2 c5)
  go_ret
  exact ⟨_, rfl, HO.out, HB.out⟩
theorem neq_spotW (a b c : Int) (W : World) : (binOp .neq 71 (.agg #[.int .i64 a, .int .i64 b, .int .i64 c]) (.agg #[.int .i64 a, .int .i64 b, .int .i64 c])).run Tryz.prog W = .ok (.bool false) W := by
  have e : ∀ z : Int, (z == z) = true := fun z => beq_iff_eq.2 rfl
  have h1 := e a; have h2 := e b; have h3 := e c
  go_simp
theorem eql_spotW (a b c : Int) (W : World) : (binOp .eql 71 (.agg #[.int .i64 a, .int .i64 b, .int .i64 c]) (.agg #[.int .i64 a, .int .i64 b, .int .i64 c])).run Tryz.prog W = .ok (.bool true) W := by
  have e : ∀ z : Int, (z == z) = true := fun z => beq_iff_eq.2 rfl
  have h1 := e a; have h2 := e b; have h3 := e c
  go_simp
/-- The cells of a row of spots that is the call's own, from some on. -/
def SpFrom (w : World) (ga : Nat) (bits : Int) (l : List (Int × Int)) (k : Nat) : Prop := ∀ j (hj : j < l.length), k ≤ j → w.cell? ⟨ga, j * 3, none⟩ = some (.int .i64 bits) ∧ w.cell? ⟨ga, j * 3 + 1, none⟩ = some (.int .i64 (l[j]).1) ∧ w.cell? ⟨ga, j * 3 + 2, none⟩ = some (.int .i64 (l[j]).2)
theorem SpN.open {w : World} {base : Nat} {v : Value} {bits : Int} {l : List (Int × Int)} (h : SpN w base v bits l) (hb : base ≤ w.heap.size) : ∃ aa ga, v = .slice aa l.length l.length ∧ (0 < l.length → aa = some ⟨ga, 0, none⟩ ∧ ∃ cur, w.heap[ga]? = some (.cells cur 71 (0, 0))) ∧ base ≤ ga ∧ ga ≤ w.heap.size ∧ SpFrom w ga bits l 0 ∧ l.length ≤ maxLen := by
  rcases h with ⟨rfl, rfl⟩ | ⟨g, cur, rfl, h2, h3, h4, h5⟩
  · exact ⟨none, w.heap.size, rfl, fun h => absurd h (by simp), hb, Nat.le_refl _, fun j hj => absurd hj (by simp), Nat.zero_le _⟩
  · refine ⟨_, g, rfl, fun _ => ⟨rfl, cur, h3⟩, h2, Nat.le_of_lt (Array.getElem?_eq_some_iff.1 h3).1, fun j hj _ => ?_, h4⟩
    obtain ⟨g', e, -, -, q0, q1, q2, -⟩ := SpN.at (.inr ⟨g, cur, rfl, h2, h3, h4, h5⟩ : SpN w base (.slice (some ⟨g, 0, none⟩) l.length l.length) bits l) j hj
    simp only [Value.slice.injEq, Option.some.injEq, Addr.mk.injEq, and_true] at e
    subst e
    exact ⟨q0, q1, q2⟩
theorem spown_open {w : World} {lo : Nat} {v : Value} {bits : Int} {l : List (Int × Int)} (h : w.ownsRow lo 71 3 v l.length (flatS bits l)) (hb : lo ≤ w.heap.size) : ∃ ab gb cb, v = .slice ab l.length cb ∧ (0 < l.length → ab = some ⟨gb, 0, none⟩ ∧ gb < w.heap.size) ∧ lo ≤ gb ∧ SpFrom w gb bits l 0 := by
  obtain ⟨_, ⟨rfl, h0⟩ | ⟨g, cap, cur, rfl, hb2, hg, hn, hm, hs, ht⟩⟩ := h
  · exact ⟨none, w.heap.size, 0, by rw [h0], fun h => absurd h (by omega), hb, fun j hj => absurd hj (by omega)⟩
  · refine ⟨_, g, cap, rfl, fun _ => ⟨rfl, (Array.getElem?_eq_some_iff.1 hg).1⟩, hb2, fun j hj _ => ?_⟩
    have key : ∀ i, i < 3 → w.cell? ⟨g, j * 3 + i, none⟩ = (encS bits l[j])[i]? := fun i hi => by
      have e := flatS_at bits l j hj i hi
      rw [← ht, List.getElem?_take, if_pos (by omega)] at e
      rw [hcell hg, ← e]; simp
    exact ⟨key 0 (by omega), key 1 (by omega), key 2 (by omega)⟩
theorem SpFrom.keep {w w' : World} {g : Nat} {bits : Int} {l : List (Int × Int)} {k : Nat} (h : SpFrom w g bits l k) (hg : w'.heap[g]? = w.heap[g]?) : SpFrom w' g bits l k := fun j hj hk => by
  obtain ⟨a, b, c⟩ := h j hj hk
  have e : ∀ o, w'.cell? ⟨g, o, none⟩ = w.cell? ⟨g, o, none⟩ := fun o => by unfold World.cell?; simp only; rw [hg]
  rw [e, e, e]
  exact ⟨a, b, c⟩
theorem SpFrom.below {w w' : World} {g : Nat} {bits : Int} {l : List (Int × Int)} {k : Nat} (h : SpFrom w g bits l k) (hb : Below w.heap.size w w') : SpFrom w' g bits l k := fun j hj hk => by
  obtain ⟨a, b, c⟩ := h j hj hk
  have kk : ∀ {o : Nat} {u : Value}, w.cell? ⟨g, o, none⟩ = some u → w'.cell? ⟨g, o, none⟩ = some u := fun h => (hb.cell (World.block_lt_of_cell? _ _ h)).trans h
  exact ⟨kk a, kk b, kk c⟩
theorem SpFrom.set {w : World} {g : Nat} {bits : Int} {l : List (Int × Int)} {k o : Nat} (h : SpFrom w g bits l k) (ho : o < k * 3) (u : Value) : SpFrom (w.setCell ⟨g, o, none⟩ u) g bits l k := fun j hj hk => by
  obtain ⟨a, b, c⟩ := h j hj hk
  have kk : ∀ {i : Nat} {u' : Value}, o < i → w.cell? ⟨g, i, none⟩ = some u' → (w.setCell ⟨g, o, none⟩ u).cell? ⟨g, i, none⟩ = some u' := fun hi h => (World.cell?_setCell_other _ _ _ _ (by first | (simp; done) | (simp; omega))).trans h
  exact ⟨kk (by omega) a, kk (by omega) b, kk (by omega) c⟩
set_option maxRecDepth 10000 in
set_option maxHeartbeats 4000000 in
theorem osameW {w : World} {lo lo' pb rb kr : Nat} {x : WY} (h : WayAt w lo pb x) (hr : RWayAt w lo' rb kr x) (hl : x.way.length ≤ 10000) (hll : x.l.length ≤ 10000) : Calls Tryz.prog 17 #[.agg #[.pointer (some ⟨pb, 0, none⟩), .pointer (some ⟨rb, 0, none⟩)]] w fun e w' => e = .returned (.bool true) ∧ Below w.heap.size w w' := by
  have hb1 := below_alloc w (.cells #[.pointer (some ⟨pb, 0, none⟩), .pointer (some ⟨rb, 0, none⟩)] 49)
  have hz1 := heap_alloc_new w (.cells #[.pointer (some ⟨pb, 0, none⟩), .pointer (some ⟨rb, 0, none⟩)] 49)
  have HB1 := Lib.hid hb1; have HZ1 := Lib.hid hz1; have HH := Lib.hid h; have HR := Lib.hid hr; have HL := Lib.hid hl; have HLL := Lib.hid hll
  clear h hr hl hll hb1 hz1
  go_enter Tryz.func17, Tryz.ntmps17
  go_upto_region 1 with (fail)
  change Code.wp _ _ _ _ (w.alloc (.cells #[.pointer (some ⟨pb, 0, none⟩), .pointer (some ⟨rb, 0, none⟩)] 49))
  generalize w.alloc (.cells #[.pointer (some ⟨pb, 0, none⟩), .pointer (some ⟨rb, 0, none⟩)] 49) = w1 at *
  obtain ⟨ob, hob⟩ : ∃ ob, ob = w.heap.size := ⟨_, rfl⟩
  rw [← hob] at HZ1
  simp only [← hob]
  have HOB := Lib.hid hob
  clear hob
  have a0 := hcell HZ1.out 0
  have hg := wgot (HH.out.below HB1.out) (by have := HL.out; omega)
  go_upto_region 2 with (go_at_call 72; refine hg.mono ?_; intro e w2 hh; obtain ⟨va, hh1, ha2, b2⟩ := hh; subst hh1; have HA2 := Lib.hid ha2; have B2 := Lib.hid b2; clear ha2 b2 hg a0)
  have BB2 := Lib.hid (HB1.out.trans (B2.out.mono HB1.out.size))
  have hz2 := (B2.out.block _ (Array.getElem?_eq_some_iff.1 HZ1.out).1).trans HZ1.out
  have a1 := hcell hz2 1
  have HZ2 := Lib.hid hz2
  have hg := rgot (HR.out.below BB2.out) (by have := HL.out; omega)
  clear hz2
  go_upto_region 3 with (go_at_call 84; refine hg.mono ?_; intro e w3 hh; obtain ⟨vb, hh1, hb3, b3⟩ := hh; subst hh1; have HB3 := Lib.hid hb3; have B3 := Lib.hid b3; clear hb3 b3 hg a1)
  have BB3 := Lib.hid (BB2.out.trans (B3.out.mono BB2.out.size))
  have HZ3 := Lib.hid ((B3.out.block _ (Array.getElem?_eq_some_iff.1 HZ2.out).1).trans HZ2.out)
  obtain ⟨aa, ga, hva, haa, hga1, hga2, hfa, hml⟩ := (HA2.out.below B3.out).open (Nat.le_trans B2.out.size B3.out.size)
  obtain ⟨ab, gb, cb, hvb, hab, hgb, hfb⟩ := spown_open HB3.out B3.out.size
  subst hva
  subst hvb
  obtain ⟨n, hn⟩ : ∃ n, n = x.way.length := ⟨_, rfl⟩
  rw [← hn] at haa hab
  simp only [← hn]
  have hgg : 0 < n → ga ≠ gb := fun h0 e => by
    obtain ⟨-, cur, hc⟩ := haa h0
    rcases HA2.out with ⟨e1, e2⟩ | ⟨g, cur2, e1, -, e3, -⟩
    · rw [e2] at hn; simp at hn; omega
    · simp only [Value.slice.injEq] at e1
      obtain ⟨e1, -⟩ := e1
      rw [(haa h0).1] at e1
      simp only [Option.some.injEq, Addr.mk.injEq, and_true] at e1
      have := (Array.getElem?_eq_some_iff.1 e3).1
      omega
  have HN := Lib.hid hn; have HAA := Lib.hid haa; have HAB := Lib.hid hab; have HGA := Lib.hid hga1; have HGB := Lib.hid hgb; have HFA := Lib.hid hfa; have HFB := Lib.hid hfb; have HGG := Lib.hid hgg
  have HWX := Lib.hid (HH.out.below BB3.out); have HRX := Lib.hid (HR.out.below BB3.out)
  clear hn haa hab hga1 hga2 hgb hfa hfb hgg hml
  obtain ⟨ov, hov⟩ : ∃ ov, ov = (!x.made || x.over) := ⟨_, rfl⟩
  have hwo := fun st : ExtW w3 => wover (HWX.out.below st.below)
  have hwn := fun st : ExtW w3 => wnodes (HWX.out.below st.below)
  rw [← hov] at hwo
  obtain ⟨nn, hnn⟩ : ∃ nn, nn = x.l.length := ⟨_, rfl⟩
  rw [← hnn] at hwn
  have o0 := fun st : ExtW w3 => st.cell (hcell HZ3.out 0)
  have o1 := fun st : ExtW w3 => st.cell (hcell HZ3.out 1)
  obtain ⟨-, vl, vw, h1, h2, -⟩ := HRX.out
  obtain ⟨al, cl, hvl, -⟩ := own_sl3 h2
  have r0 : w3.cell? ⟨rb, 0, none⟩ = some (.int .i64 (if ov = true then 0 else 1)) := by rw [hov]; exact hcell h1 0
  have r1 : w3.cell? ⟨rb, 1, none⟩ = some (.slice al nn cl) := by rw [hnn, ← hvl]; exact hcell h1 1
  have y0 := fun st : ExtW w3 => st.cell r0
  have y1 := fun st : ExtW w3 => st.cell r1
  have hwo' : ∀ st : ExtW w3, Calls Tryz.prog 85 #[.pointer (some ⟨pb, 0, none⟩)] st.val fun e w' => e = .returned (.bool ov) ∧ st.val = w' := fun st => (hwo st).mono fun e w' ⟨h1, h2⟩ => ⟨h1, h2.symm⟩
  have hwn' : ∀ st : ExtW w3, Calls Tryz.prog 75 #[.pointer (some ⟨pb, 0, none⟩)] st.val fun e w' => e = .returned (.int .i64 nn) ∧ st.val = w' := fun st => (hwn st).mono fun e w' ⟨h1, h2⟩ => ⟨h1, h2.symm⟩
  clear hwo hwn r0 r1 h1 h2 hvl hov hnn
  go_cut [48] (fun v48 wx => v48 = .bool false ∧ Below w3.heap.size w3 wx)
  case first =>
    cases ov
    all_goals
      refine wp_region_ext (by kernel_rfl) (by kernel_rfl) ?_
      repeat (go_big_quiet_step (first | (go_at_call 85; with_reducible refine calls_ext_same (hwo' _)) | (go_at_call 75; with_reducible refine calls_ext_same (hwn' _))))
      refine wpQuiet_nil ?_
      rintro W ⟨⟨W2, hW⟩, rfl⟩
      (try go_wp2_with fail)
      go_meet
      exact ⟨rfl, hW⟩
  case rest =>
  obtain ⟨rfl, hbx⟩ := hcut
  have HBX := Lib.hid hbx
  have HNB : Hid (n ≤ 10000) := Lib.hid (by rw [HN.out]; exact HL.out)
  have hnb : (n : Int) ≤ 10000 := by have := HNB.out; omega
  clear o0 o1 y0 y1 hwo' hwn' hbx
  go_wp2_with (fail)
  go_loopw [5] (fun v5 wr => ∃ k : Nat, k ≤ n ∧ v5 = .int .i64 k ∧ Keeps (fun j => j = ga) w3 wr ∧ SpFrom wr ga x.bits x.way k ∧ (0 < n → ∃ cur, wr.heap[ga]? = some (.cells cur 71 (0, 0)))) (fun v5 _ => n - (intOf v5).toNat)
  case atStart => exact ⟨0, Nat.zero_le _, rfl, below_keeps HBX.out _, fun j hj hk => by
    obtain ⟨q0, q1, q2⟩ := HFA.out j hj hk
    have kk : ∀ {o : Nat} {u : Value}, w3.cell? ⟨ga, o, none⟩ = some u → wc.cell? ⟨ga, o, none⟩ = some u := fun h => (HBX.out.cell (World.block_lt_of_cell? _ _ h)).trans h
    exact ⟨kk q0, kk q1, kk q2⟩, fun h0 => by
      obtain ⟨-, cur, hc⟩ := HAA.out h0
      exact ⟨cur, (HBX.out.block _ (Array.getElem?_eq_some_iff.1 hc).1).trans hc⟩⟩
  case round =>
    clear HBX
    obtain ⟨k, hk, rfl, hkp, hsf, hcu⟩ := hrel
    have HKP := Lib.hid hkp; have HSF := Lib.hid hsf; have HCU := Lib.hid hcu
    have HBR : Hid (Below w.heap.size w wr) := Lib.hid (keeps_below hkp BB3.out BB3.out.size (fun j e => by have h1 := HGA.out; have h2 := HB1.out.size; omega))
    clear hkp hsf hcu
    by_cases hlt : k < n
    · have h0n : 0 < n := by omega
      obtain ⟨rfl, cur0, -⟩ := HAA.out h0n
      obtain ⟨rfl, hgl⟩ := HAB.out h0n
      have hkl : k < x.way.length := by rw [← HN.out]; exact hlt
      obtain ⟨q0, q1, q2⟩ := HSF.out k hkl (Nat.le_refl _)
      have hfb2 : SpFrom wr gb x.bits x.way 0 := HFB.out.keep (HKP.out.block gb hgl (fun c => HGG.out h0n c.symm))
      obtain ⟨s0, s1, s2⟩ := hfb2 k hkl (Nat.zero_le _)
      obtain ⟨p1, hp1⟩ : ∃ p1, p1 = (x.way[k]).1 := ⟨_, rfl⟩
      obtain ⟨p2, hp2⟩ : ∃ p2, p2 = (x.way[k]).2 := ⟨_, rfl⟩
      rw [← hp1] at q1 s1
      rw [← hp2] at q2 s2
      have HP1 := Lib.hid hp1; have HP2 := Lib.hid hp2
      have hnq := fun W => neq_spotW x.bits p1 p2 W
      have hk0 : (0 : Int) ≤ k := by omega
      have hk1 : (k : Int) < n := by omega
      have y0 := fun st : ExtW wr => st.cell q0
      have y1 := fun st : ExtW wr => st.cell q1
      have y2 := fun st : ExtW wr => st.cell q2
      have z0 := fun st : ExtW wr => st.cell s0
      have z1 := fun st : ExtW wr => st.cell s1
      have z2 := fun st : ExtW wr => st.cell s2
      have HLT := Lib.hid hlt
      clear q0 q1 q2 s0 s1 s2 hfb2 hp1 hp2 hlt hk
      go_upto_region 8 with (fail)
      refine wp_region_ext (by kernel_rfl) (by kernel_rfl) ?_
      repeat (go_big_quiet_step (fail))
      refine wpQuiet_nil ?_
      rintro W ⟨⟨W2, hW⟩, rfl⟩
      have hKW : Keeps (fun j => j = ga) w3 W := HKP.out.again (below_keeps hW _)
      obtain ⟨cur, hcur⟩ := HCU.out h0n
      have hcW := (hW.block _ (Array.getElem?_eq_some_iff.1 hcur).1).trans hcur
      obtain ⟨g0, g1, g2⟩ := HSF.out k (by rw [← HN.out]; exact HLT.out) (Nat.le_refl _)
      rw [← HP1.out] at g1
      rw [← HP2.out] at g2
      have kk : ∀ {o : Nat} {u : Value}, wr.cell? ⟨ga, o, none⟩ = some u → W.cell? ⟨ga, o, none⟩ = some u := fun h => (hW.cell (World.block_lt_of_cell? _ _ h)).trans h
      have g0 := kk g0; have g1 := kk g1; have g2 := kk g2
      have gf := hfrz hcW
      have HKW := Lib.hid hKW; have HCW := Lib.hid hcW; have HWB := Lib.hid hW
      clear y0 y1 y2 z0 z1 z2 hKW hcur hcW hW hnq kk
      go_wp2_with (fail)
      have hs8 : SpFrom W ga x.bits x.way (k + 1) := fun j hj hk => (HSF.out.below HWB.out) j hj (by omega)
      have e1 := setCell_same HCW.out (k * 3) (.int .i64 0)
      have e2 := setCell_same e1 (k * 3 + 1) (.int .i64 0)
      have e3 := setCell_same e2 (k * 3 + 2) (.int .i64 9)
      refine ⟨⟨k + 1, HLT.out, by have := HLT.out; go_num, ((HKW.out.again (setCell_keeps _ _ _ _)).again (setCell_keeps _ _ _ _)).again (setCell_keeps _ _ _ _), ((hs8.set (by omega) _).set (by omega) _).set (by omega) _, fun _ => ⟨_, e3⟩⟩, ?_⟩
      have := HLT.out; simp [intOf]; omega
    · obtain rfl : k = n := by omega
      have hbox := (HKP.out.block ob (Array.getElem?_eq_some_iff.1 HZ3.out).1 (fun c => by
        have h1 := HGA.out
        have h2 := (Array.getElem?_eq_some_iff.1 HZ1.out).1
        omega)).trans HZ3.out
      have b0 := hcell hbox 0
      have hg := wgot (HH.out.below HBR.out) (by have := HL.out; omega)
      have HLO := Lib.hid hlt
      clear hk hlt hbox
      go_upto_region 12 with (go_at_call 72; refine hg.mono ?_; intro e w5 hh; obtain ⟨vc, hh1, ha5, b5⟩ := hh; subst hh1; have HA5 := Lib.hid ha5; have B5 := Lib.hid b5; clear ha5 b5 hg b0)
      have BB5 := Lib.hid (HBR.out.trans (B5.out.mono HBR.out.size))
      obtain ⟨ac, gc, hvc, hac, -, -, hfc, -⟩ := HA5.out.open B5.out.size
      subst hvc
      rw [← HN.out] at hac
      simp only [← HN.out]
      by_cases h0 : k = 0
      · have h0' : ((k : Int) == 0) = true := by rw [h0]; rfl
        have h0n : (k == 0) = true := by rw [h0]; rfl
        clear h0 hac hfc
        refine wp_region_ext (by kernel_rfl) (by kernel_rfl) ?_
        repeat (go_big_quiet_step (fail))
        refine wpQuiet_nil ?_
        rintro W ⟨⟨W2, hW⟩, rfl⟩
        have HW := Lib.hid hW
        clear hW
        go_wp2_with (fail)
        go_ret
        exact ⟨rfl, BB5.out.trans (HW.out.mono BB5.out.size)⟩
      · have h0p : 0 < k := by omega
        obtain ⟨rfl, -⟩ := hac h0p
        obtain ⟨rfl, hgl⟩ := HAB.out h0p
        have hkl : 0 < x.way.length := by rw [← HN.out]; exact h0p
        obtain ⟨q0, q1, q2⟩ := hfc 0 hkl (Nat.le_refl _)
        have hfb2 : SpFrom w5 gb x.bits x.way 0 := (HFB.out.keep (HKP.out.block gb hgl (fun c => HGG.out h0p c.symm))).below B5.out
        obtain ⟨s0, s1, s2⟩ := hfb2 0 hkl (Nat.le_refl _)
        obtain ⟨p1, hp1⟩ : ∃ p1, p1 = (x.way[0]).1 := ⟨_, rfl⟩
        obtain ⟨p2, hp2⟩ : ∃ p2, p2 = (x.way[0]).2 := ⟨_, rfl⟩
        rw [← hp1] at q1 s1
        rw [← hp2] at q2 s2
        have hnq := fun W => eql_spotW x.bits p1 p2 W
        have hk1 : (0 : Int) < k := by omega
        have h0' : ((k : Int) == 0) = false := beq_eq_false_iff_ne.2 (by omega)
        have h0n : (k == 0) = false := beq_eq_false_iff_ne.2 h0
        simp only [Nat.zero_mul, Nat.zero_add] at q0 q1 q2 s0 s1 s2
        have y0 := fun st : ExtW w5 => st.cell q0
        have y1 := fun st : ExtW w5 => st.cell q1
        have y2 := fun st : ExtW w5 => st.cell q2
        have z0 := fun st : ExtW w5 => st.cell s0
        have z1 := fun st : ExtW w5 => st.cell s1
        have z2 := fun st : ExtW w5 => st.cell s2
        clear q0 q1 q2 s0 s1 s2 hfb2 hp1 hp2 h0 hac hfc hgl
        refine wp_region_ext (by kernel_rfl) (by kernel_rfl) ?_
        repeat (go_big_quiet_step (fail))
        refine wpQuiet_nil ?_
        rintro W ⟨⟨W2, hW⟩, rfl⟩
        have HW := Lib.hid hW
        clear hW y0 y1 y2 z0 z1 z2
        go_wp2_with (fail)
        go_ret
        exact ⟨rfl, BB5.out.trans (HW.out.mono BB5.out.size)⟩
end Go.Proofs.YtomllmlieeaaiaaGreat

/-
  PathsPlay: a Way begins, on both sides.
-/
namespace Go.Proofs.YtomllmlieeaaiaaGreat
open Go.RowKit Go.Maps TagPure
set_option linter.unusedVariables false

def WValid (bits a b : Int) : Prop := (0 ≤ a ∧ a < tsize bits) ∧ 0 ≤ b ∧ b < tsize bits
instance (bits a b : Int) : Decidable (WValid bits a b) := by unfold WValid; infer_instance
def wx0 (bits most a b : Int) (kb m : Nat) : WY := if WValid bits a b then wnew bits most a b kb m else wvoid kb
def AX (bits a b most : Int) (w : World) (lo pb : Nat) : Prop := ∃ kb m, WayAt w lo pb (wx0 bits most a b kb m)
def CX (bits a b most : Int) (w : World) (lo rb : Nat) : Prop := ∃ kr, RWayAt w lo rb kr (wx0 bits most a b 0 0)
section
variable {bits a b most : Int} {w w' : World} {lo lo' p r : Nat}
theorem AX.below (h : AX bits a b most w lo p) (hb : Below w.heap.size w w') : AX bits a b most w' lo p := by
  obtain ⟨kb, m, h⟩ := h; exact ⟨kb, m, h.below hb⟩
theorem AX.lower (h : AX bits a b most w lo p) (hl : lo' ≤ lo) : AX bits a b most w lo' p := by
  obtain ⟨kb, m, h⟩ := h; exact ⟨kb, m, h.lower hl⟩
theorem CX.below (h : CX bits a b most w lo r) (hb : Below w.heap.size w w') : CX bits a b most w' lo r := by
  obtain ⟨kr, h⟩ := h; exact ⟨kr, h.below hb⟩
theorem CX.lower (h : CX bits a b most w lo r) (hl : lo' ≤ lo) : CX bits a b most w lo' r := by
  obtain ⟨kr, h⟩ := h; exact ⟨kr, h.lower hl⟩
end
theorem way_new (bits a b most : Int) (W : World) : Calls Tryz.prog 15 #[.int .i64 bits, .int .i64 a, .int .i64 b, .int .i64 most] W fun e w' => ∃ p, e = .returned (.pointer (some ⟨p, 0, none⟩)) ∧ AX bits a b most w' W.heap.size p ∧ W.heap.size ≤ p ∧ Below W.heap.size W w' := by
  by_cases h : WValid bits a b
  · refine (newway_ok bits a b most h.1 h.2 W).mono fun e w' hh => ?_
    obtain ⟨xb, kb, m, h1, h2, h3, h4, h5⟩ := hh
    exact ⟨xb, h1, ⟨kb, m, by unfold wx0; rw [if_pos h]; exact h2⟩, h2.low, h3⟩
  · refine (newway_no bits a b most h W).mono fun e w' hh => ?_
    obtain ⟨xb, h1, h2, h3⟩ := hh
    exact ⟨xb, h1, ⟨xb, 0, by unfold wx0; rw [if_neg h]; exact h2⟩, h2.low, h3⟩
theorem rway_new (bits a b most : Int) (W : World) : Calls Tryz.prog 16 #[.int .i64 bits, .int .i64 a, .int .i64 b, .int .i64 most] W fun e w' => ∃ p, e = .returned (.pointer (some ⟨p, 0, none⟩)) ∧ CX bits a b most w' W.heap.size p ∧ W.heap.size ≤ p ∧ Below W.heap.size W w' := by
  by_cases h : WValid bits a b
  · refine (rnew_ok 0 0 bits a b most h.1 h.2 W).mono fun e w' hh => ?_
    obtain ⟨rb, kr, h1, h2, h3, h4⟩ := hh
    exact ⟨rb, h1, ⟨kr, by unfold wx0; rw [if_pos h]; exact h2⟩, h2.low, h3⟩
  · refine (rnew_no 0 bits a b most h W).mono fun e w' hh => ?_
    obtain ⟨rb, h1, h2, h3⟩ := hh
    exact ⟨rb, h1, ⟨rb, by unfold wx0; rw [if_neg h]; exact h2⟩, h2.low, h3⟩
theorem wgood_len {x : WY} (h : WyGood x) : x.way.length ≤ 10000 ∧ x.l.length ≤ 10000 := by
  rcases h with h | ⟨-, h1, h2, -⟩
  · exact ⟨h.wayl, by have := h.len; omega⟩
  · rw [h1, h2]; exact ⟨Nat.zero_le _, Nat.zero_le _⟩
theorem wo_made {bits a b most : Int} {w : World} {lo p r : Nat} (h : AX bits a b most w lo p) (hr : CX bits a b most w lo r) : ∃ d : WPd, WyP w lo ⟨p, r, d⟩ (wySet ⟨p, r, d⟩) := by
  obtain ⟨kb, m, h⟩ := h
  obtain ⟨kr, hr⟩ := hr
  refine ⟨⟨wx0 bits most a b kb m, kr⟩, h, ?_, ?_, rfl⟩
  · by_cases hv : WValid bits a b
    · simp only [wx0, if_pos hv] at hr ⊢; exact ⟨hr.low, hr.ex⟩
    · simp only [wx0, if_neg hv] at hr ⊢; exact ⟨hr.low, hr.ex⟩
  · by_cases hv : WValid bits a b
    · simp only [wx0, if_pos hv]
      refine .inl (wnew_ok2 ?_ hv.1 hv.2)
      have := hv.1
      by_cases hb : 1 ≤ bits ∧ bits ≤ 12
      · exact hb
      · have e : tsize bits = 0 := by unfold tsize; rw [if_pos (by omega)]
        rw [e] at this; omega
    · simp only [wx0, if_neg hv]
      exact .inr ⟨rfl, rfl, rfl, rfl⟩
theorem wo_new {w0 w wF : World} {B R : WB} {V : WV} {s : CS} {x : RS} {m : Nat} {o : PO WPd} (h : DPS w0 w B R V s x m) (hb : Below w.heap.size w wF) (ho : WyP wF w.heap.size o (wySet o)) : ∃ V' : WV, DPS w0 wF B R V' s x m ∧ (∀ p ∈ V.fm, p ∈ V'.fm) ∧ MapsIn wF V' (wySet o) := by
  have hF := h.keep hb
  have cellsNo : ∀ k es cl, wySet o k → wF.heap[k]? = some (.map es cl) → o.a.x.mo = some k := fun k es cl hk he => by
    rcases hk with rfl | rfl | rfl | rfl | hk
    · obtain ⟨cs, e⟩ := ho.x.blkB; rw [e] at he; cases he
    · obtain ⟨cs, e⟩ := ho.r.blkB; rw [e] at he; cases he
    · obtain ⟨-, cs, T, e, -⟩ := ho.x.kbB; rw [e] at he; cases he
    · obtain ⟨-, cs, T, e, -⟩ := ho.r.krB; rw [e] at he; cases he
    · exact hk
  cases hmo : o.a.x.mo with
  | none => exact ⟨V, hF, fun _ h => h, fun k es cl hk he => by have := cellsNo k es cl hk he; rw [hmo] at this; cases this⟩
  | some mb =>
    have hmp := ho.x.mp mb hmo
    obtain ⟨es, cl, hm⟩ := hmp.2.blk
    have hbs := way_fresh h.pr.ws hb hmp.1
    have hws := hF.pr.ws.more hm hbs.ne
    have hrd := hF.pr.rd
    refine ⟨{ V with fm := (mb, es, cl) :: V.fm }, ⟨⟨hws, ⟨hrd.below, hrd.ref, hrd.blk, hrd.lo, hrd.ar, hrd.nt, hrd.tkl⟩, hF.pr.al⟩, hF.far, hF.cok, hF.nn, hF.ni, hF.st, hF.nk⟩, fun _ h => List.mem_cons_of_mem _ h, fun k es' cl' hk he => ?_⟩
    have := cellsNo k es' cl' hk he
    rw [hmo] at this
    cases this
    rw [hm] at he
    simp only [Option.some.injEq, Obj.map.injEq] at he
    obtain ⟨rfl, rfl⟩ := he
    exact List.mem_cons_self
end Go.Proofs.YtomllmlieeaaiaaGreat

/-
  A list of acts that came in. (written by genacts.py)
-/
namespace Go.Proofs.YtomllmlieeaaiaaGreat
open Go.RowKit Go.Maps
set_option linter.unusedVariables false

structure WyAc where
  k : Int
  a : Int
  b : Int
  p : Int
  q : Int
  n : Int
  v : Int
  i : Int
def WyAc.cells (x : WyAc) : List Value := [.int .u8 x.k, .int .u8 x.a, .int .i64 x.b, .int .i64 x.p, .int .i64 x.q, .int .i64 x.n, .int .u64 x.v, .int .u64 x.i]
structure WyAc.wf (x : WyAc) : Prop where
  k : (Lit.int .u8 x.k).wf = true
  a : (Lit.int .u8 x.a).wf = true
  b : (Lit.int .i64 x.b).wf = true
  p : (Lit.int .i64 x.p).wf = true
  q : (Lit.int .i64 x.q).wf = true
  n : (Lit.int .i64 x.n).wf = true
  v : (Lit.int .u64 x.v).wf = true
  i : (Lit.int .u64 x.i).wf = true
def wyacLeaves : List Leaf := [.int .u8, .int .u8, .int .i64, .int .i64, .int .i64, .int .i64, .int .u64, .int .u64]
theorem wyac_of {w : World} {cs : List Value} (h : Leaf.allHold w wyacLeaves cs) : ∃ x : WyAc, cs = x.cells ∧ x.wf := by
  obtain ⟨c0, r, rfl, g0, h⟩ := allHold_cons h
  obtain ⟨c1, r, rfl, g1, h⟩ := allHold_cons h
  obtain ⟨c2, r, rfl, g2, h⟩ := allHold_cons h
  obtain ⟨c3, r, rfl, g3, h⟩ := allHold_cons h
  obtain ⟨c4, r, rfl, g4, h⟩ := allHold_cons h
  obtain ⟨c5, r, rfl, g5, h⟩ := allHold_cons h
  obtain ⟨c6, r, rfl, g6, h⟩ := allHold_cons h
  obtain ⟨c7, r, rfl, g7, h⟩ := allHold_cons h
  obtain rfl := allHold_nil h
  obtain ⟨n0, rfl, w0⟩ := holds_int g0
  obtain ⟨n1, rfl, w1⟩ := holds_int g1
  obtain ⟨n2, rfl, w2⟩ := holds_int g2
  obtain ⟨n3, rfl, w3⟩ := holds_int g3
  obtain ⟨n4, rfl, w4⟩ := holds_int g4
  obtain ⟨n5, rfl, w5⟩ := holds_int g5
  obtain ⟨n6, rfl, w6⟩ := holds_int g6
  obtain ⟨n7, rfl, w7⟩ := holds_int g7
  exact ⟨⟨n0, n1, n2, n3, n4, n5, n6, n7⟩, rfl, w0, w1, w2, w3, w4, w5, w6, w7⟩
/-- Accesses that may be read. -/
structure WyActs (w : World) (a : Option Addr) (cap : Nat) (l : List WyAc) : Prop where
  le : l.length ≤ cap
  most : cap ≤ maxLen
  nil : a = none → cap = 0
  wf : ∀ x ∈ l, x.wf
  cell : l = [] ∨ ∃ b off, a = some ⟨b, off, none⟩ ∧ ∀ i, (hi : i < l.length) → ∀ j, j < 8 → w.cell? ⟨b, off + (i * 8 + j), none⟩ = (l[i]).cells[j]?
theorem wyacts_of {w : World} {a : Option Addr} {n cap : Nat} (h : Leaf.holds w (.sl wyacLeaves) (.slice a n cap)) : ∃ l, l.length = n ∧ WyActs w a cap l := by
  obtain ⟨l, a', cap', hv, h1, h2, h3, h4, h5⟩ := recs_of h
  simp only [Value.slice.injEq] at hv
  obtain ⟨rfl, rfl, rfl⟩ := hv
  obtain ⟨m, hm, hp⟩ := list_of (fun i (x : WyAc) => l[i]? = some x.cells ∧ x.wf) l.length (fun i hi => by
    obtain ⟨x, hx, hw⟩ := wyac_of (h4 _ (List.getElem_mem hi))
    exact ⟨x, by rw [List.getElem?_eq_getElem hi, hx], hw⟩)
  refine ⟨m, hm, by omega, h2, h3, fun x hx => ?_, ?_⟩
  · obtain ⟨i, hi, rfl⟩ := List.mem_iff_getElem.1 hx
    exact (hp i hi).2
  · rcases h5 with rfl | ⟨b, off, rfl, h5⟩
    · left; simpa using hm
    · refine .inr ⟨b, off, rfl, fun i hi j hj => ?_⟩
      have h6 := h5 i (by omega) j hj
      have h7 := (hp i hi).1
      rw [List.getElem?_eq_getElem (by omega)] at h7
      simp only [Option.some.injEq] at h7
      rw [h7] at h6
      exact h6
theorem WyActs.at {w : World} {a : Option Addr} {cap : Nat} {l : List WyAc} (h : WyActs w a cap l) (i : Nat) (hi : i < l.length) :
    ∃ b off x, a = some ⟨b, off, none⟩ ∧ l[i]? = some x ∧ x.wf ∧ w.cell? ⟨b, off + i * 8, none⟩ = some (.int .u8 x.k) ∧ w.cell? ⟨b, off + i * 8 + 1, none⟩ = some (.int .u8 x.a) ∧ w.cell? ⟨b, off + i * 8 + 2, none⟩ = some (.int .i64 x.b) ∧ w.cell? ⟨b, off + i * 8 + 3, none⟩ = some (.int .i64 x.p) ∧ w.cell? ⟨b, off + i * 8 + 4, none⟩ = some (.int .i64 x.q) ∧ w.cell? ⟨b, off + i * 8 + 5, none⟩ = some (.int .i64 x.n) ∧ w.cell? ⟨b, off + i * 8 + 6, none⟩ = some (.int .u64 x.v) ∧ w.cell? ⟨b, off + i * 8 + 7, none⟩ = some (.int .u64 x.i) := by
  rcases h.cell with rfl | ⟨b, off, rfl, h5⟩
  · simp at hi
  · have h6 := h5 i hi
    refine ⟨b, off, l[i], rfl, List.getElem?_eq_getElem hi, h.wf _ (List.getElem_mem hi), h6 0 (by omega), ?_, ?_, ?_, ?_, ?_, ?_, ?_⟩
    · rw [Nat.add_assoc]; exact h6 1 (by omega)
    · rw [Nat.add_assoc]; exact h6 2 (by omega)
    · rw [Nat.add_assoc]; exact h6 3 (by omega)
    · rw [Nat.add_assoc]; exact h6 4 (by omega)
    · rw [Nat.add_assoc]; exact h6 5 (by omega)
    · rw [Nat.add_assoc]; exact h6 6 (by omega)
    · rw [Nat.add_assoc]; exact h6 7 (by omega)

theorem WyActs.below {w w' : World} {a : Option Addr} {cap : Nat} {l : List WyAc} (h : WyActs w a cap l) (hb : Below w.heap.size w w') : WyActs w' a cap l := by
  refine ⟨h.le, h.most, h.nil, h.wf, h.cell.imp id fun ⟨b, off, e, h5⟩ => ⟨b, off, e, fun i hi j hj => ?_⟩⟩
  have h6 := h5 i hi j hj
  obtain ⟨v, hv⟩ : ∃ v, (l[i]).cells[j]? = some v := by
    match j, hj with
    | 0, _ | 1, _ | 2, _ | 3, _ | 4, _ | 5, _ | 6, _ | 7, _ => exact ⟨_, rfl⟩
  rw [hv] at h6 ⊢
  exact (hb.cell (World.block_lt_of_cell? _ _ h6)).trans h6
end Go.Proofs.YtomllmlieeaaiaaGreat

/-
  PathsPlay: the walk. (written by genplay.py)
-/
namespace Go.Proofs.YtomllmlieeaaiaaGreat
open Go.RowKit Go.Maps TagPure
set_option linter.unusedVariables false

theorem wdps_begin {w0 w : World} {B R : WB} {V : WV} {s : CS} {x : RS} {f : Fst} (hpr : Pr w0 w B R V s x) (hV : V = { v0 f.conf with its := f.its }) (hfar : Far s x 300) (hcok : f.conf.ok = true) (hitl : f.its.length ≤ 40) : DPS w0 w B R V s x 0 := by
  refine ⟨hpr, hfar, by rw [hV]; exact hcok, by rw [hV]; exact Nat.zero_le _, by rw [hV]; show f.its.length ≤ _; omega, (by rw [hV]; intro y hy; cases hy), (by rw [hV]; intro y hy; cases hy)⟩
theorem below_drwW {w w' : World} (h : Below w.drew.heap.size w.drew w') : Below w.heap.size w w' := ⟨h.os, h.tape, h.output, h.size, fun k hk => h.block k hk⟩
theorem below_alW {w w' : World} {o : Obj} (h : Below (w.alloc o).heap.size (w.alloc o) w') : Below w.heap.size w w' := (below_alloc w o).trans (h.mono (below_alloc w o).size)
abbrev WOne (ab : Nat) (c0 c1 c2 c3 : Int) (W : World) : Prop := W.cell? ⟨ab, 2, none⟩ = some (.int .i64 c0) ∧ W.cell? ⟨ab, 3, none⟩ = some (.int .i64 c1) ∧ W.cell? ⟨ab, 4, none⟩ = some (.int .i64 c2) ∧ W.cell? ⟨ab, 5, none⟩ = some (.int .i64 c3)
section
variable {ab : Nat} {c0 c1 c2 c3 : Int} {W W' : World}
theorem wone_al {o : Obj} (h : WOne ab c0 c1 c2 c3 W) : WOne ab c0 c1 c2 c3 (W.alloc o) := by
  have k : ∀ {j : Nat} {v : Value}, W.cell? ⟨ab, j, none⟩ = some v → (W.alloc o).cell? ⟨ab, j, none⟩ = some v := fun h => by rw [World.cell?_alloc_past _ _ _ (World.block_lt_of_cell? _ _ h)]; exact h
  exact ⟨k h.1, k h.2.1, k h.2.2.1, k h.2.2.2⟩
theorem wone_drew (h : WOne ab c0 c1 c2 c3 W) : WOne ab c0 c1 c2 c3 W.drew := h
theorem wone_below (h : WOne ab c0 c1 c2 c3 W) (hb : Below W.heap.size W W') : WOne ab c0 c1 c2 c3 W' := by
  have k : ∀ {j : Nat} {v : Value}, W.cell? ⟨ab, j, none⟩ = some v → W'.cell? ⟨ab, j, none⟩ = some v := fun h => (hb.cell (World.block_lt_of_cell? _ _ h)).trans h
  exact ⟨k h.1, k h.2.1, k h.2.2.1, k h.2.2.2⟩
theorem wone_set {obk o : Nat} {u : Value} (h : WOne ab c0 c1 c2 c3 W) (hne : ab ≠ obk) : WOne ab c0 c1 c2 c3 (W.setCell ⟨obk, o, none⟩ u) := by
  have k : ∀ {j : Nat} {u' : Value}, W.cell? ⟨ab, j, none⟩ = some u' → (W.setCell ⟨obk, o, none⟩ u).cell? ⟨ab, j, none⟩ = some u' := fun h => (World.cell?_setCell_other _ _ _ _ (by first | (simp; done) | (simp; omega))).trans h
  exact ⟨k h.1, k h.2.1, k h.2.2.1, k h.2.2.2⟩
end
theorem wop_store {bits a b most : Int} {w w1 : World} {obk pb rb : Nat} {u1 u2 : Value} (hz : w1.heap[obk]? = some (.cells #[u1, u2] 49 (0, 0))) (hA : AX bits a b most w1 w.heap.size pb) (hC : CX bits a b most w1 w.heap.size rb) (hb : Below w.heap.size w w1) (hl : w.heap.size ≤ obk) (v0 v1 : Value) :
    ((w1.setCell ⟨obk, 0, none⟩ v0).setCell ⟨obk, 1, none⟩ v1).heap[obk]? = some (.cells #[v0, v1] 49 (0, 0)) ∧ (AX bits a b most ((w1.setCell ⟨obk, 0, none⟩ v0).setCell ⟨obk, 1, none⟩ v1) w.heap.size pb ∧ CX bits a b most ((w1.setCell ⟨obk, 0, none⟩ v0).setCell ⟨obk, 1, none⟩ v1) w.heap.size rb) ∧ w.heap.size ≤ obk ∧ Below w.heap.size w ((w1.setCell ⟨obk, 0, none⟩ v0).setCell ⟨obk, 1, none⟩ v1) := by
  have s1 := setCell_same hz 0 v0
  have s2 := setCell_same s1 1 v1
  have f : Fr (fun T => T == 49) false w1 ((w1.setCell ⟨obk, 0, none⟩ v0).setCell ⟨obk, 1, none⟩ v1) := (set_ty hz 0 v0).trans (set_ty s1 1 v1)
  have b1 := set_below hb hb.size hl 0 v0
  obtain ⟨kb, m, hA⟩ := hA
  obtain ⟨kr, hC⟩ := hC
  refine ⟨s2, ⟨⟨kb, m, hA.fr f (fun T hT => ?_)⟩, ⟨kr, hC.fr f (fun T hT => ?_)⟩⟩, hl, set_below b1 b1.size hl 1 v1⟩
  · unfold yTy at hT; simp only [Bool.or_eq_true, beq_iff_eq] at hT; rcases hT with (rfl | rfl) | rfl <;> rfl
  · unfold ryTy at hT; simp only [Bool.or_eq_true, beq_iff_eq] at hT; rcases hT with (rfl | rfl) | rfl <;> rfl
theorem info_wop : (Tryz.prog.info? 49).map (fun i => (i.zero, i.size, i.bytes)) = some (some (.agg #[.pointer none, .pointer none]), 2, 16) := by kernel_rfl
theorem POLaw.no {α : Type} {OT : TypeId} {Q Z : TypeId → Bool} {P : World → Nat → PO α → (Nat → Prop) → Prop} (hl : POLaw OT Q Z P) {w : World} {lo : Nat} {o : PO α} {S : Nat → Prop} (h : P w lo o S) {k : Nat} {cs : Array Value} {T : TypeId} {fr : Nat × Nat} (hk : w.heap[k]? = some (.cells cs T fr)) (hT : Q T = false) : ¬ S k := fun c => by
  rcases hl.blk h c with ⟨cs2, T2, fr2, g1, g2⟩ | ⟨es, cl, g1⟩
  · rw [ocell_ty hk g1] at hT; rw [hT] at g2; cases g2
  · rw [hk] at g1; cases g1
abbrev WTwo (ob q pb rb wb rwb : Nat) (ln : Int) (W : World) : Prop := W.cell? ⟨ob, 0, none⟩ = some (.pointer (some ⟨pb, 0, none⟩)) ∧ W.cell? ⟨ob, 1, none⟩ = some (.pointer (some ⟨rb, 0, none⟩)) ∧ W.cell? ⟨q, 0, none⟩ = some (.pointer (some ⟨wb, 0, none⟩)) ∧ W.cell? ⟨q, 1, none⟩ = some (.pointer (some ⟨rwb, 0, none⟩)) ∧ W.cell? ⟨rb, 0, none⟩ = some (.int .i64 ln)
theorem wtwo_below {ob q pb rb wb rwb : Nat} {ln : Int} {W W' : World} (h : WTwo ob q pb rb wb rwb ln W) (hb : Below W.heap.size W W') : WTwo ob q pb rb wb rwb ln W' := by
  have k : ∀ {c j : Nat} {v : Value}, W.cell? ⟨c, j, none⟩ = some v → W'.cell? ⟨c, j, none⟩ = some v := fun h => (hb.cell (World.block_lt_of_cell? _ _ h)).trans h
  exact ⟨k h.1, k h.2.1, k h.2.2.1, k h.2.2.2.1, k h.2.2.2.2⟩
theorem WMid.below {w0 w w' w'' : World} {B R : WB} {V : WV} {s : CS} {x : RS} {o : PO WPd} (h : WMid w0 w B R V s x o w') (hb : Below w'.heap.size w' w'') : WMid w0 w B R V s x o w'' := by
  obtain ⟨kr, h1, h2, h3⟩ := h.ex
  exact ⟨h.ws.keep hb, h.wx.below hb, h.fz.trans (kz_below hb _ _) (.inl rfl), kr, h1.keep hb, h2.below hb, h3⟩
theorem rline {w : World} {lo b kr : Nat} {x : WY} (h : RWayAt w lo b kr x) {ov : Bool} (ho : ov = (!x.made || x.over)) : w.cell? ⟨b, 0, none⟩ = some (.int .i64 (if ov = true then 0 else 1)) := by
  subst ho
  obtain ⟨_, vl, vw, h1, -⟩ := h
  exact hcell h1 0
set_option maxRecDepth 100000 in
set_option maxHeartbeats 8000000 in
theorem wplay_any (f : Fst) (l : List WyAc) (al : Option Addr) (capl : Nat) (w : World) (hr : FstRd w f) (hl : WyActs w al capl l) :
    Calls Tryz.prog 3 #[.agg #[.int .i64 f.c.bits, .int .i64 f.c.budget, .int .i64 f.c.tries, .int .i64 f.c.quantum, .int .i64 f.c.way, .bool f.gr, .slice f.ia f.its.length f.ic, .slice f.pa f.puts.length f.pc, .slice f.sa f.sts.length f.sc, .int .i64 f.ticks], .slice al l.length capl] w
    fun e w' => e = .returned (.bool true) ∧ Below w.heap.size w w' := by
  have hml : l.length ≤ maxLen := Nat.le_trans hl.le hl.most
  unfold maxLen at hml
  obtain ⟨i0, hi0, hi1, hi2, hi3⟩ := info_parts info_wop
  have I0 := Lib.hid hi0; have I1 := Lib.hid hi1; have I2 := Lib.hid hi2; have I3 := Lib.hid hi3
  clear hi0 hi1 hi2 hi3
  have hB := below_alloc w (.cells f.cells 28)
  have z := heap_alloc_new w (.cells f.cells 28)
  have HR := Lib.hid (hr.below hB); have HB := Lib.hid hB; have HZ := Lib.hid z; have HLL := Lib.hid hl
  clear hr hB z hl
  go_enter Tryz.func3, Tryz.ntmps3
  go_upto_region 1 with (fail)
  change Code.wp _ _ _ _ (w.alloc (.cells f.cells 28))
  generalize w.alloc (.cells f.cells 28) = w1 at *
  have z := HZ.out
  obtain ⟨e0, e1, e2, e3, e4, e5, e6, e7, e8, e9⟩ := fst_cells z
  clear z
  by_cases h3 : 200 < l.length
  · have d3 : decide ((200 : Int) < l.length) = true := decide_eq_true (by omega)
    clear h3
    go_upto_if 18 with (go_at_call 12; refine (great_any f w1 HR.out).mono ?_; rintro e w2 ⟨g, rfl, b2, hg⟩; have B2 := Lib.hid b2; clear b2 hg e0 e1 e2 e3 e4 e5 e6 e7 e8 e9; cases g)
    all_goals
      go_wp2_with (go_at_call 13; refine (lives16 _).mono ?_; rintro e w3 ⟨rfl, b3⟩)
      go_ret
      have h1 := HB.out.trans (B2.out.mono HB.out.size)
      exact ⟨rfl, h1.trans (b3.mono h1.size)⟩
  have d3 : decide ((200 : Int) < l.length) = false := decide_eq_false (by omega)
  have HL3 : Hid (l.length ≤ 200) := by show l.length ≤ 200; omega
  clear h3
  go_upto_if 18 with (go_at_call 12; refine (great_any f w1 HR.out).mono ?_; rintro e w2 ⟨g, rfl, b2, hg⟩; have B2 := Lib.hid b2; have HG := Lib.hid hg; clear b2 hg e0 e1 e2 e3 e4 e5 e6 e7 e8 e9; cases g)
  rotate_left
  · go_wp2_with (go_at_call 13; refine (lives16 _).mono ?_; rintro e w3 ⟨rfl, b3⟩)
    go_ret
    have h1 := HB.out.trans (B2.out.mono HB.out.size)
    exact ⟨rfl, h1.trans (b3.mono h1.size)⟩
  obtain ⟨hin, hsz⟩ := HG.out trivial
  have HIN := Lib.hid (hin.below B2.out)
  have hitl : f.its.length ≤ 40 := hin.ni
  have HBB : Hid (Below w.heap.size w w2) := HB.out.trans (B2.out.mono HB.out.size)
  have z := (B2.out.block _ (Array.getElem?_eq_some_iff.1 HZ.out).1).trans HZ.out
  obtain ⟨e0, e1, e2, e3, e4, e5, e6, e7, e8, e9⟩ := fst_cells z
  clear z hin hsz
  go_upto_region 4 with (go_at_call 14; refine (begin_any f w2 HIN.out).mono ?_; rintro e w3 ⟨B, R, V, s, x, rfl, hpr, hV, hfar, hcok, -⟩; have hdp := wdps_begin hpr hV hfar hcok hitl; have HPR := Lib.hid hdp; clear hdp; clear hpr hV hfar hcok e0 e1 e2 e3 e4 e5 e6 e7 e8 e9)
  have hq0 := heap_alloc_new w3 (.cells #[.pointer (some ⟨B.wb, 0, none⟩), .pointer (some ⟨R.wb, 0, none⟩)] 34)
  have hB4 := below_alloc w3 (.cells #[.pointer (some ⟨B.wb, 0, none⟩), .pointer (some ⟨R.wb, 0, none⟩)] 34)
  have HPR4 := Lib.hid (HPR.out.keep hB4)
  change Code.wp _ _ _ _ (w3.alloc (.cells #[.pointer (some ⟨B.wb, 0, none⟩), .pointer (some ⟨R.wb, 0, none⟩)] 34))
  generalize w3.alloc (.cells #[.pointer (some ⟨B.wb, 0, none⟩), .pointer (some ⟨R.wb, 0, none⟩)] 34) = w4 at *
  generalize w3.heap.size = q at *
  have HQ4 := Lib.hid hq0
  clear HPR hq0 hB4
  have HMP : Hid (OPS 49 WyP w2 w4 B R q V s x 0 [] (.slice none 0 0)) := ⟨HPR4.out, HQ4.out, World.ownsRow_nil _ _ _ _, fun _ _ => False, fun i hi => (by cases hi), fun i j hi => (by cases hi)⟩
  clear HPR4 HQ4 d3 hitl HIN B2 HG HZ HR HB
  have HLL2 := Lib.hid (HLL.out.below HBB.out)
  clear HLL
  generalize (Value.agg #[.int .i64 f.c.bits, .int .i64 f.c.budget, .int .i64 f.c.tries, .int .i64 f.c.quantum, .int .i64 f.c.way, .bool f.gr, .slice f.ia f.its.length f.ic, .slice f.pa f.puts.length f.pc, .slice f.sa f.sts.length f.sc, .int .i64 f.ticks]) = va at *
  go_wp2_with fail
  go_loopw [6, 7] (fun v i wr => ∃ (k : Nat) (V : WV) (s : CS) (x : RS) (L : List (PO WPd)), k ≤ l.length ∧ i = .int .i64 k ∧ OPS 49 WyP w2 wr B R q V s x k L v ∧ L.length ≤ k) (fun _ i _ => l.length - (intOf i).toNat)
  case atStart => exact ⟨0, V, s, x, [], by omega, rfl, HMP.out, by simp⟩
  case round =>
    clear HMP V s x
    obtain ⟨i, V, s, x, L, hi, rfl, hT, hLi⟩ := hrel
    have hl300 := HL3.out
    by_cases hlt : i < l.length
    · have hlt' : (i : Int) < l.length := by omega
      obtain ⟨b, off, y, rfl, hy, hyw, y0, y1, y2, y3, y4, y5, y6, y7⟩ := (HLL2.out.below (w := w2) (w' := wr) hT.d.pr.ws.below).at i hlt
      have hkb := wf_u8 hyw.k
      obtain ⟨kk, hkk⟩ : ∃ kk : Nat, (kk : Int) = y.k % 10 := ⟨(y.k % 10).toNat, by omega⟩
      have e3 : y.k.tmod 10 = kk := by rw [Int.tmod_eq_emod_of_nonneg hkb.1, hkk]
      have hk10 : kk < 10 := by omega
      have hb1 := below_alloc wr (.cells #[.int .u8 y.k, .int .u8 y.a, .int .i64 y.b, .int .i64 y.p, .int .i64 y.q, .int .i64 y.n, .int .u64 y.v, .int .u64 y.i] 43)
      have hz1 := heap_alloc_new wr (.cells #[.int .u8 y.k, .int .u8 y.a, .int .i64 y.b, .int .i64 y.p, .int .i64 y.q, .int .i64 y.n, .int .u64 y.v, .int .u64 y.i] 43)
      have HT := Lib.hid (hT.below wy_law hb1); have HZ1 := Lib.hid hz1; have HYW := Lib.hid hyw
      clear hb1 hz1 hT hy hyw hkb hkk
      go_upto_region 9 with (fail)
      change Code.wp _ _ _ _ (wr.alloc (.cells #[.int .u8 y.k, .int .u8 y.a, .int .i64 y.b, .int .i64 y.p, .int .i64 y.q, .int .i64 y.n, .int .u64 y.v, .int .u64 y.i] 43))
      generalize wr.alloc (.cells #[.int .u8 y.k, .int .u8 y.a, .int .i64 y.b, .int .i64 y.p, .int .i64 y.q, .int .i64 y.n, .int .u64 y.v, .int .u64 y.i] 43) = w6 at *
      generalize wr.heap.size = ab at *
      clear y0 y1 y2 y3 y4 y5 y6 y7
      have y0 : w6.cell? ⟨ab, 0, none⟩ = some (.int .u8 y.k) := hcell HZ1.out 0
      go_upto_block 2 with (fail)
      clear y0 e3
      obtain ⟨vo, vcap, rfl⟩ := own_sl2 HT.out.row
      go_cut [6] (fun v wx => ∃ (V : WV) (s : CS) (x : RS) (L : List (PO WPd)), OPS 49 WyP w2 wx B R q V s x (i + 1) L v ∧ L.length ≤ i + 1)
      case first =>
        rcases (show kk = 0 ∨ kk = 1 ∨ 2 ≤ kk by omega) with h5 | h5 | h5
        · -- a Way begins
          have d0 : ((kk : Int) == 0) = true := beq_iff_eq.2 (by omega)
          have y5 : w6.cell? ⟨ab, 5, none⟩ = some (.int .i64 y.n) := hcell HZ1.out 5
          by_cases hp : 500 < y.n
          · have d1 : decide ((500 : Int) < y.n) = true := decide_eq_true hp
            clear hk10 h5 hp
            go_wp2_with fail
            exact ⟨⟨i + 1, V, s, x, L, by omega, by go_num, HT.out.le (by omega), by omega⟩, by simp [intOf]; omega⟩
          · have d1 : decide ((500 : Int) < y.n) = false := decide_eq_false hp
            clear h5 hp
            go_upto_region 12 with (fail)
            clear d0 d1 y5
            have HNEW := Lib.hid (fun W => way_new y.b y.p y.q y.n W); have HRNEW := Lib.hid (fun W => rway_new y.b y.p y.q y.n W)
            have hg6 : WOne ab y.b y.p y.q y.n w6 := ⟨hcell HZ1.out 2, hcell HZ1.out 3, hcell HZ1.out 4, hcell HZ1.out 5⟩
            have hab : ab < w6.heap.size := (Array.getElem?_eq_some_iff.1 HZ1.out).1
            go_cut [10] (fun v wx => ∃ (obk pb rb : Nat), v = .pointer (some ⟨obk, 0, none⟩) ∧ wx.heap[obk]? = some (.cells #[.pointer (some ⟨pb, 0, none⟩), .pointer (some ⟨rb, 0, none⟩)] 49 (0, 0)) ∧ (AX y.b y.p y.q y.n wx w6.heap.size pb ∧ CX y.b y.p y.q y.n wx w6.heap.size rb) ∧ w6.heap.size ≤ obk ∧ Below w6.heap.size w6 wx)
            case first =>
              go_region_held2 (fun W => WOne ab y.b y.p y.q y.n W) (first | exact hg6 | with_reducible assumption | (with_reducible refine wone_al ?_; with_reducible assumption) | (with_reducible refine wone_drew (wone_al ?_); with_reducible assumption) | (with_reducible refine wone_set (wone_set ?_ ?_) ?_ <;> first | with_reducible assumption | omega | (simp; omega))) (first
                | (go_at_call 15; refine (HNEW.out _).mono ?_; intro e wP hh; obtain ⟨pb, hh1, ht, hpl, hb0⟩ := hh; subst hh1; have hsP := wone_below (by with_reducible assumption) hb0; (first | (have hB := below_drwW (w := w6) hb0; have hP : w6.heap.size ≤ pb := hpl; have TP := Lib.hid (show AX y.b y.p y.q y.n wP w6.heap.size pb from ht); have HBP := Lib.hid hB; have hzP := hB.size; clear hB hP) | (have hB := below_alW (w := w6) (o := .cells #[.pointer none, .pointer none] 49) (below_drwW hb0); have zo := (hb0.block _ (Array.getElem?_eq_some_iff.1 (heap_alloc_new w6 (.cells #[.pointer none, .pointer none] 49))).1).trans (heap_alloc_new w6 (.cells #[.pointer none, .pointer none] 49)); have o0 := hcell zo 0; have o1 := hcell zo 1; have of0 := hfrz zo 0; have of1 := hfrz zo 1; have HZO := Lib.hid zo; clear zo; have TP := Lib.hid (ht.lower (below_alloc w6 (.cells #[.pointer none, .pointer none] 49)).size); have HBP := Lib.hid hB; have hzP := hB.size; clear hB)); clear ht hpl hb0)
                | (go_at_call 16; refine (HRNEW.out _).mono ?_; intro e wR hh; obtain ⟨rb, hh1, ht, hpl, hb0⟩ := hh; subst hh1; have hsR := wone_below (by with_reducible assumption) hb0; (first | (have hb1 : Below wP.heap.size wP wR := hb0; (first | (have zo := (hb0.block _ (Array.getElem?_eq_some_iff.1 HZO.out).1).trans HZO.out; clear o0 o1 of0 of1 HZO; have o0 := hcell zo 0; have o1 := hcell zo 1; have of0 := hfrz zo 0; have of1 := hfrz zo 1; have HZO := Lib.hid zo; clear zo) | skip); have q1 := And.intro (TP.out.below hb1) (ht.lower HBP.out.size); have q2 := HBP.out.trans (hb1.mono HBP.out.size); have HF := Lib.hid (And.intro q1 q2); have hzR := q2.size; clear q1 q2 hb1) | (have hb1 := below_alW (w := wP) (o := .cells #[.pointer none, .pointer none] 49) hb0; have zo := (hb0.block _ (Array.getElem?_eq_some_iff.1 (heap_alloc_new wP (.cells #[.pointer none, .pointer none] 49))).1).trans (heap_alloc_new wP (.cells #[.pointer none, .pointer none] 49)); have o0 := hcell zo 0; have o1 := hcell zo 1; have of0 := hfrz zo 0; have of1 := hfrz zo 1; have HZO := Lib.hid zo; clear zo; have q1 := And.intro (TP.out.below hb1) (ht.lower (Nat.le_trans HBP.out.size (below_alloc wP (.cells #[.pointer none, .pointer none] 49)).size)); have q2 := HBP.out.trans (hb1.mono HBP.out.size); have HF := Lib.hid (And.intro q1 q2); have hzR := q2.size; clear q1 q2 hb1)); clear ht hpl hb0))
              all_goals (try go_wp2_with fail)
              all_goals go_meet
              all_goals first
                | (have hs := wop_store HZO.out HF.out.1.1 HF.out.1.2 HF.out.2 (by first | exact Nat.le_refl _ | exact HBP.out.size) (.pointer (some ⟨pb, 0, none⟩)) (.pointer (some ⟨rb, 0, none⟩)); exact ⟨_, pb, rb, rfl, hs.1, hs.2.1, hs.2.2.1, hs.2.2.2⟩)
                | (have hs := wop_store (heap_alloc_new _ (.cells #[.pointer none, .pointer none] 49)) (HF.out.1.1.below (below_alloc _ _)) (HF.out.1.2.below (below_alloc _ _)) (HF.out.2.trans ((below_alloc _ _).mono HF.out.2.size)) HF.out.2.size (.pointer (some ⟨pb, 0, none⟩)) (.pointer (some ⟨rb, 0, none⟩)); exact ⟨_, pb, rb, rfl, hs.1, hs.2.1, hs.2.2.1, hs.2.2.2⟩)
                | exact ⟨_, pb, rb, rfl, heap_alloc_new _ _, ⟨HF.out.1.1.below (below_alloc _ _), HF.out.1.2.below (below_alloc _ _)⟩, HF.out.2.size, HF.out.2.trans ((below_alloc _ _).mono HF.out.2.size)⟩
            case rest =>
            obtain ⟨obk, pb, rb, hcv, hob, ⟨hA, hC⟩, hlo, hbx⟩ := hcut
            subst hcv
            generalize wc = w7 at *
            obtain ⟨d, hok⟩ := wo_made hA hC
            have hgl := wgood_len hok.ok
            have hsm := osameW hok.x hok.r hgl.1 hgl.2
            simp only at hsm
            have z0 := hcell hob 0
            have z1 := hcell hob 1
            have HOB := Lib.hid hob; have HOK := Lib.hid hok; have HBX := Lib.hid hbx
            clear hob hok hlo hbx hA hC hgl hg6 hab HNEW HRNEW
            go_upto_region 15 with (go_at_call 17; refine hsm.mono ?_; intro e w9 hh; obtain ⟨hh1, b9⟩ := hh; subst hh1; have HB9 : Hid (Below w6.heap.size w6 w9) := HBX.out.trans (b9.mono HBX.out.size); have HOK9 := Lib.hid (wy_law.below HOK.out b9); have hob9 := (b9.block _ (Array.getElem?_eq_some_iff.1 HOB.out).1).trans HOB.out; clear b9 z0 z1 hsm; have z0 := hcell hob9 0; have z1 := hcell hob9 1; clear hob9)
            have HROW := Lib.hid (HT.out.below wy_law HB9.out).row
            have hLL := hLi
            go_wp2_with (at_builtin; refine wpList_append_own _ rfl _ _ 36 rfl w2.heap.size 49 i0 (.agg #[.pointer none, .pointer none]) 2 16 Tryz.underlying36 I0.out I1.out I2.out I3.out rfl (by decide) _ _ _ rfl (HROW.out.alloc _) ⟨w9.heap.size, 0, none⟩ 1 1 [.pointer (some ⟨pb, 0, none⟩), .pointer (some ⟨rb, 0, none⟩)] rfl rfl ?c1 ?c2 ?c3 ?c4 ?c5 ?_)
            case c1 => exact World.news_of_block (heap_alloc_new w9 _)
            case c2 => simp [Value.oneCell']
            case c3 => unfold maxLen; omega
            case c4 => omega
            case c5 => have := (HT.out.below wy_law HB9.out).d.pr.ws.below.size; simp; omega
            intro v' w11 hown' hgrow _
            have hb10 := below_alloc w9 (.cells #[.pointer (some ⟨pb, 0, none⟩), .pointer (some ⟨rb, 0, none⟩)] 49)
            have hB10 := HB9.out.trans (hb10.mono HB9.out.size)
            have hTb := HT.out.below wy_law hB10
            have hB11 := grown_below (HROW.out.alloc _) hgrow hTb.d.pr.ws.below hTb.d.pr.ws.below.size (Nat.le_refl _)
            have f11 := grown_ty (HROW.out.alloc _) hgrow
            have hoF := wy_law.below HOK9.out hb10
            obtain ⟨V', g1, g2, g3⟩ := wo_new HT.out.d hB10 hoF
            have hP := HT.out.push wy_law (o := ⟨pb, rb, d⟩) hB10 g1 g2 hoF g3 hown' f11 hB11
            have HP := Lib.hid hP
            clear hb10 hB10 hTb hB11 f11 hP hown' hgrow z0 z1 hoF g1 g2 g3
            go_wp2_with fail
            go_meet
            case rel => exact ⟨V', s, x, L ++ [⟨pb, rb, d⟩], HP.out.le (by omega), by simp; omega⟩
        · -- others store
          have d0 : ((kk : Int) == 0) = false := beq_eq_false_iff_ne.2 (by omega)
          have d1 : ((kk : Int) == 1) = true := beq_iff_eq.2 (by omega)
          clear h5
          have y6 : w6.cell? ⟨ab, 6, none⟩ = some (.int .u64 y.v) := hcell HZ1.out 6
          have y7 : w6.cell? ⟨ab, 7, none⟩ = some (.int .u64 y.i) := hcell HZ1.out 7
          have p0 := hcell HT.out.pq 0
          have p1 := hcell HT.out.pq 1
          have hst := pstore_any HT.out.d.pr (300 + i) HT.out.d.far (by omega) y.v y.i HYW.out.v HYW.out.i
          go_wp2_with (go_at_call 18; refine hst.mono ?_; intro e w7 hh; obtain ⟨hh1, h7, f7⟩ := hh; subst hh1; have HT7 := Lib.hid (HT.out.world wy_law (m' := i + 1) (HT.out.d.acc _ _ _ h7) (fun _ h => h) f7); clear h7 f7 hst p0 p1 y6 y7)
          go_meet
          case rel => exact ⟨_, _, _, L, HT7.out, by omega⟩
        · -- a step
          have d0 : ((kk : Int) == 0) = false := beq_eq_false_iff_ne.2 (by omega)
          have d1 : ((kk : Int) == 1) = false := beq_eq_false_iff_ne.2 (by omega)
          clear h5
          by_cases hL : L.length = 0
          · have d4 : decide ((0 : Int) < L.length) = false := decide_eq_false (by omega)
            have d4n : decide (0 < L.length) = false := decide_eq_false (by omega)
            clear hL
            go_wp2_with fail
            go_meet
            case rel => exact ⟨_, _, _, L, HT.out.le (by omega), by omega⟩
          · have d4 : decide ((0 : Int) < L.length) = true := decide_eq_true (by omega)
            have d4n : decide (0 < L.length) = true := decide_eq_true (by omega)
            go_upto_region 19 with (fail)
            clear d0 d1 d4 d4n
            have hab := wf_u8 HYW.out.a
            have hlp : (0 : Int) < L.length := by omega
            obtain ⟨j, hj⟩ : ∃ j : Nat, (j : Int) = y.a % L.length := ⟨(y.a % L.length).toNat, by have := Int.emod_nonneg y.a (show (L.length : Int) ≠ 0 by omega); omega⟩
            have hjl : j < L.length := by have := Int.emod_lt_of_pos y.a hlp; omega
            have hjl' : (j : Int) < L.length := by omega
            have e1 : wrap64 y.a = y.a := IntWalk.wrap64_in _ (by omega)
            have e2 : y.a.tmod L.length = j := by rw [Int.tmod_eq_emod_of_nonneg hab.1, hj]
            have e4 : ((L.length : Int) == 0) = false := beq_eq_false_iff_ne.2 (by omega)
            obtain ⟨g, gcap, hv, k0, k1⟩ := HT.out.at j hjl
            simp only [Value.slice.injEq, true_and] at hv
            obtain ⟨rfl, rfl⟩ := hv
            obtain ⟨o, ho⟩ : ∃ o, o = L[j]'hjl := ⟨_, rfl⟩
            rw [← ho] at k0 k1
            have x1 : w6.cell? ⟨ab, 1, none⟩ = some (.int .u8 y.a) := hcell HZ1.out 1
            have HO := Lib.hid ho
            clear hj hab hL ho
            go_upto_region 20 with (fail)
            clear x1 k0 k1 e1 e2 e4 hlp hjl'
            have hb8 := below_alloc w6 (.cells #[.pointer (some ⟨o.pb, 0, none⟩), .pointer (some ⟨o.rb, 0, none⟩)] 49)
            have hz8 := heap_alloc_new w6 (.cells #[.pointer (some ⟨o.pb, 0, none⟩), .pointer (some ⟨o.rb, 0, none⟩)] 49)
            have HT8 := Lib.hid (HT.out.below wy_law hb8); have HZ8 := Lib.hid hz8
            clear hb8 hz8
            change Code.wp _ _ _ _ (w6.alloc (.cells #[.pointer (some ⟨o.pb, 0, none⟩), .pointer (some ⟨o.rb, 0, none⟩)] 49))
            generalize w6.alloc (.cells #[.pointer (some ⟨o.pb, 0, none⟩), .pointer (some ⟨o.rb, 0, none⟩)] 49) = w8 at *
            generalize w6.heap.size = ob at *
            obtain ⟨S, hoS, hmS, hput⟩ := HT8.out.take wy_law j hjl
            rw [← HO.out] at hoS
            have HOS := Lib.hid hoS; have HMS := Lib.hid hmS; have HPUT := Lib.hid hput
            have hst := wo_r HT8.out.d (by omega) hoS
            have z1 := hcell HZ8.out 1
            have p1 := hcell HT8.out.pq 1
            clear hoS hmS hput
            go_upto_region 21 with (go_at_call 19; refine hst.mono ?_; intro e w9 hh; obtain ⟨hh1, hM⟩ := hh; subst hh1; have HM := Lib.hid hM; clear hM hst z1 p1)
            have hzo9 := HM.out.fz.cells _ _ _ _ HZ8.out rfl (fun e => by
              obtain ⟨cs, h9⟩ := HOS.out.r.blkB
              have := ocell_ty (e ▸ HZ8.out) h9; exact absurd this (by decide)) (fun e => by
              obtain ⟨-, cs, T, h9, hT⟩ := HOS.out.r.krB
              have := ocell_ty (e ▸ HZ8.out) h9; rcases hT with rfl | rfl <;> exact absurd this (by decide))
            have hzq9 := HM.out.fz.cells _ _ _ _ HT8.out.pq rfl (fun e => by
              obtain ⟨cs, h9⟩ := HOS.out.r.blkB
              have := ocell_ty (e ▸ HT8.out.pq) h9; exact absurd this (by decide)) (fun e => by
              obtain ⟨-, cs, T, h9, hT⟩ := HOS.out.r.krB
              have := ocell_ty (e ▸ HT8.out.pq) h9; rcases hT with rfl | rfl <;> exact absurd this (by decide))
            have hsx := wo_x HT8.out.d (by omega) HOS.out HMS.out HM.out
            obtain ⟨ov, hov⟩ : ∃ ov, ov = (!(o.a.x.nxt (rlook x.l (wyA o.a.x))).made || (o.a.x.nxt (rlook x.l (wyA o.a.x))).over) := ⟨_, rfl⟩
            rw [← hov] at hsx
            have hln : w9.cell? ⟨o.rb, 0, none⟩ = some (.int .i64 (if ov = true then 0 else 1)) := by
              obtain ⟨kr', -, h2, -⟩ := HM.out.ex
              exact rline h2 hov
            have HOV := Lib.hid hov
            have hb9 : Below w9.heap.size w9 w9.drew := (Below.refl _ _).drew
            have hsx2 := wo_x HT8.out.d (by omega) HOS.out HMS.out (HM.out.below hb9)
            rw [← hov] at hsx2
            have s9 : WTwo ob q o.pb o.rb B.wb R.wb (if ov = true then 0 else 1) w9.drew := ⟨hcell hzo9 0, hcell hzo9 1, hcell hzq9 0, hcell hzq9 1, hln⟩
            clear hzo9 hzq9 hsx hln hov hb9 HM
            cases ov
            · simp only [Bool.false_eq_true, if_false] at s9
              go_region_held2 (fun W => WTwo ob q o.pb o.rb B.wb R.wb 1 W) (with_reducible assumption) (first
                | (go_at_call 20; refine hsx2.mono ?_; intro e wX hh; obtain ⟨hh1, V', s', x', kb, kr, S', hd, hwp, hmp, hsub, hfr⟩ := hh; subst hh1; have hzoX := hfr.cells _ _ _ _ HZ8.out rfl (wy_law.no HOS.out HZ8.out rfl); have hzqX := hfr.cells _ _ _ _ HT8.out.pq rfl (wy_law.no HOS.out HT8.out.pq rfl); have hgl := wgood_len hwp.ok; have hsm := osameW hwp.x hwp.r hgl.1 hgl.2; simp only at hsm; have sX : WTwo ob q o.pb o.rb B.wb R.wb 1 wX := ⟨hcell hzoX 0, hcell hzoX 1, hcell hzqX 0, hcell hzqX 1, rline hwp.r HOV.out⟩; have hpt := HPUT.out wX V' s' x' (i + 1) ⟨o.pb, o.rb, ⟨{ o.a.x.nxt (rlook x.l (wyA o.a.x)) with kb := kb }, kr⟩⟩ S' (by rw [← HO.out]) (by rw [← HO.out]) hd hwp hmp hsub hfr; have HPT := Lib.hid hpt; clear hd hwp hmp hsub hfr hzoX hzqX hgl hpt hsx2 s9)
                | (go_at_call 17; refine hsm.mono ?_; intro e wY hh; obtain ⟨hh1, bY⟩ := hh; subst hh1; have sY : WTwo ob q o.pb o.rb B.wb R.wb 1 wY := wtwo_below sX bY; have HY := Lib.hid (HPT.out.below wy_law bY); clear bY hsm sX))
              all_goals (try go_wp2_with fail)
              all_goals go_meet
              all_goals
                case rel => exact ⟨V', s', x', _, HY.out, by rw [List.length_set]; omega⟩
            · simp only [if_true] at s9
              go_region_held2 (fun W => WTwo ob q o.pb o.rb B.wb R.wb 0 W) (with_reducible assumption) (first
                | (go_at_call 20; refine hsx2.mono ?_; intro e wX hh; obtain ⟨hh1, V', s', x', kb, kr, S', hd, hwp, hmp, hsub, hfr⟩ := hh; subst hh1; have hzoX := hfr.cells _ _ _ _ HZ8.out rfl (wy_law.no HOS.out HZ8.out rfl); have hzqX := hfr.cells _ _ _ _ HT8.out.pq rfl (wy_law.no HOS.out HT8.out.pq rfl); have hgl := wgood_len hwp.ok; have hsm := osameW hwp.x hwp.r hgl.1 hgl.2; simp only at hsm; have sX : WTwo ob q o.pb o.rb B.wb R.wb 0 wX := ⟨hcell hzoX 0, hcell hzoX 1, hcell hzqX 0, hcell hzqX 1, rline hwp.r HOV.out⟩; have hpt := HPUT.out wX V' s' x' (i + 1) ⟨o.pb, o.rb, ⟨{ o.a.x.nxt (rlook x.l (wyA o.a.x)) with kb := kb }, kr⟩⟩ S' (by rw [← HO.out]) (by rw [← HO.out]) hd hwp hmp hsub hfr; have HPT := Lib.hid hpt; clear hd hwp hmp hsub hfr hzoX hzqX hgl hpt hsx2 s9)
                | (go_at_call 17; refine hsm.mono ?_; intro e wY hh; obtain ⟨hh1, bY⟩ := hh; subst hh1; have sY : WTwo ob q o.pb o.rb B.wb R.wb 0 wY := wtwo_below sX bY; have HY := Lib.hid (HPT.out.below wy_law bY); clear bY hsm sX))
              all_goals (try go_wp2_with fail)
              all_goals go_meet
              all_goals
                case rel => exact ⟨V', s', x', _, HY.out, by rw [List.length_set]; omega⟩
      case rest =>
      clear HT HZ1 HYW
      obtain ⟨V', s', x', L', hT2, hL2⟩ := hcut
      have p0 := hcell hT2.pq 0
      have p1 := hcell hT2.pq 1
      have hps := psame_any hT2.d.pr
      have HT2 := Lib.hid hT2
      clear hT2
      go_wp2_with (go_at_call 21; refine hps.mono ?_; intro e w9 hh; obtain ⟨hh1, b9⟩ := hh; subst hh1; have HT9 := Lib.hid (HT2.out.below wy_law b9); clear hps b9 p0 p1)
      go_roundw
      case rel => exact ⟨i + 1, V', s', x', L', by omega, by go_num, HT9.out, hL2⟩
      case measure => simp [intOf]; omega
    · obtain rfl : i = l.length := by omega
      have p0 := hcell hT.pq 0
      have p1 := hcell hT.pq 1
      have o6 := psalln_any hT.d.pr (by have := hT.d.nn; omega) hT.d.nk (by have := hT.d.ni; omega) (by have := hT.d.far.1; omega)
      have HT := Lib.hid hT
      clear hT hlt
      go_wp2_with (first
        | (go_at_call 22; refine o6.mono ?_; intro e w17 hh; obtain ⟨hh1, b17⟩ := hh; subst hh1; have HB17 := Lib.hid b17; clear o6 b17 p0 p1)
        | (go_at_call 13; refine (lives16 _).mono ?_; rintro e w18 ⟨rfl, b18⟩))
      go_ret
      have h0 := HT.out.d.pr.ws.below
      have h1 := h0.trans (HB17.out.mono h0.size)
      have h2 := h1.trans (b18.mono h1.size)
      exact ⟨rfl, HBB.out.trans (h2.mono HBB.out.size)⟩
set_option maxRecDepth 10000 in
theorem walkPathsPlay {H1 : Type} (w : World) (enc : TypeId × Value → H1) (base : Nat) (v : Value) (d : DataW H1) (p : List MemPlace) (k : DataW.Trod enc Tryz.prog w 0 (fun _ => true) true 28 v d p) (o : Value.okWide Tryz.prog w .any base 28 v)
    (enc2 : TypeId × Value → H1) (base2 : Nat) (v2 : Value) (d2 : DataW H1) (p2 : List MemPlace) (k2 : DataW.Trod enc2 Tryz.prog w 0 (fun _ => true) true 29 v2 d2 p2) (o2 : Value.okWide Tryz.prog w .any base2 29 v2) :
    Calls Tryz.prog 3 #[v, v2] w fun e w' => e = .returned (.bool true) ∧ Below w.heap.size w w' := by
  have hl : leaves Tryz.prog 6 29 = some [.sl wyacLeaves] := by kernel_rfl
  obtain ⟨f, rfl, hr⟩ := fst_open k o
  obtain ⟨a1, n1, cap1, rfl⟩ := Go.WideShapes.okWide_slice Tryz.underlying29 o2
  obtain ⟨l, hll, hac⟩ := wyacts_of (opened hl k2).1
  subst hll
  exact wplay_any f l a1 cap1 w hr hac
end Go.Proofs.YtomllmlieeaaiaaGreat
