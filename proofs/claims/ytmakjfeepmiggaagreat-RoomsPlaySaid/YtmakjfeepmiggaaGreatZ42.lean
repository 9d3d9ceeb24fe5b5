import Derived.Test.YtmakjfeepmiggaaGreatZ12
import Derived.Test.YtmakjfeepmiggaaGreatZ40
import Derived.Test.YtmakjfeepmiggaaGreatZ41
namespace Go.Proofs.YtmakjfeepmiggaaGreat
open Go.RowKit Go.Maps TagPure
set_option linter.unusedVariables false
structure RPd where
  x : RM
  y : RR
  lb : Nat
  xb : Nat
  rwb : Nat
  kr : Nat
  wy : WY
  hb : Nat
  rhb : Nat
  hp : HP
  qs : List (Nat × Dg)
  rqs : List (Nat × Dg)
def rmSet (o : PO RPd) (k : Nat) : Prop := k = o.pb ∨ k = o.rb ∨ (o.a.x.l ≠ [] ∧ k = o.a.lb) ∨ (o.a.x.ph = .search ∧ (k = o.a.xb ∨ k = o.a.rwb ∨ k = o.a.wy.kb ∨ k = o.a.kr ∨ o.a.wy.mo = some k)) ∨ (o.a.x.ph = .hop ∧ (k = o.a.hb ∨ k = o.a.rhb ∨ k ∈ o.a.qs.map Prod.fst ∨ k ∈ o.a.rqs.map Prod.fst))
def kPr (T : TypeId) : Bool := T == 206 || T == 3 || T == 135 || T == 334 || T == 358 || T == 360 || T == 261
def kRf (T : TypeId) : Bool := T == 107 || T == 56 || T == 141 || T == 212 || T == 319 || T == 321
def qRm (T : TypeId) : Bool := kPr T || kRf T
def zRm (T : TypeId) : Bool := T == 71 || T == 39 || T == 344
structure RmGeo (x : RM) (y : RR) : Prop where
  bits : 1 ≤ x.bits ∧ x.bits ≤ 12
  yb : y.bits = x.bits
  ya : y.a = x.a
  yb2 : y.b = x.b
  a : 0 ≤ x.a ∧ x.a < tsize x.bits
  b : 0 ≤ x.b ∧ x.b < tsize x.bits
structure RmSrch (w : World) (lo : Nat) (d : RPd) : Prop where
  line : d.y.line = 3
  l : d.x.l = []
  xw : d.x.way = some ⟨d.xb, 0, none⟩
  yw : d.y.way = some ⟨d.rwb, 0, none⟩
  p : WayAt w lo d.xb d.wy
  r : RWayAt w lo d.rwb d.kr d.wy
  ok : WyOk d.wy
  ov : d.wy.over = false
  sl : Slt d.wy.l
structure RmHop (w : World) (lo : Nat) (d : RPd) : Prop where
  line : d.y.line = 4
  l : d.x.l = []
  xh : d.x.hops = some ⟨d.hb, 0, none⟩
  yh : d.y.hops = some ⟨d.rhb, 0, none⟩
  p : HopsAt w lo d.hb d.hp d.qs
  r : RHopsAt w lo d.rhb d.hp d.rqs
  left : d.hp.left ≠ 0
  wf : ∀ p ∈ d.hp.way, (Lit.int .i64 p.2.2).wf = true
  sp : d.y.sb = d.x.sb ∧ d.y.su = d.x.su ∧ d.y.sk = d.x.sk
structure RmP (w : World) (lo : Nat) (o : PO RPd) (S : Nat → Prop) : Prop where
  p : RoomAtB w lo o.pb o.a.x o.a.lb
  r : RRoomAt w lo o.rb o.a.y
  is : o.a.y.is = o.a.x.is ∧ (o.a.x.is = true → o.a.y.sb = o.a.x.sb ∧ o.a.y.su = o.a.x.su ∧ o.a.y.sk = o.a.x.sk)
  geo : o.a.x.ph ≠ .off → RmGeo o.a.x o.a.y
  off : o.a.x.ph = .off → o.a.y.line = 0
  look : o.a.x.ph = .look → (o.a.y.line = 1 ∧ ((o.a.x.b = o.a.x.a ∧ o.a.x.l = [o.a.x.a]) ∨ (o.a.x.b ≠ o.a.x.a ∧ o.a.x.l = [o.a.x.a, o.a.x.b]))) ∨ (o.a.y.line = 2 ∧ o.a.x.l = [o.a.x.b])
  srch : o.a.x.ph = .search → RmSrch w lo o.a
  hop : o.a.x.ph = .hop → RmHop w lo o.a
  s : S = rmSet o
section
variable {w w' : World} {lo hb b : Nat} {x : HP} {qs : List (Nat × Dg)} {d : Dg}
theorem DgAt.keepB (h : DgAt w b d) (h1 : w'.heap[b]? = w.heap[b]?) (h2 : ∀ (k : Nat) (cs : Array Value) (fr : Nat × Nat), w.heap[k]? = some (.cells cs 39 fr) → w'.heap[k]? = some (.cells cs 39 fr)) : DgAt w' b d := by
  cases d with
  | mark xs =>
    obtain ⟨v, g1, g2⟩ := h
    refine ⟨v, h1.trans g1, ?_⟩
    rcases g2 with g2 | ⟨g, off, cur, rfl, g3, g4⟩
    · exact .inl g2
    · exact .inr ⟨g, off, cur, rfl, h2 _ _ _ g3, g4⟩
  | out σ => exact h1.trans h
  | put σ g r => exact h1.trans h
theorem HopsAt.keepB (h : HopsAt w lo hb x qs) (h1 : w'.heap[hb]? = w.heap[hb]?) (hq : ∀ q ∈ qs, w'.heap[q.1]? = w.heap[q.1]?) (ha : ∀ (k : Nat) (cs : Array Value) (fr : Nat × Nat), w.heap[k]? = some (.cells cs 39 fr) → w'.heap[k]? = some (.cells cs 39 fr)) (hs : ∀ (k : Nat) (cs : Array Value) (fr : Nat × Nat), w.heap[k]? = some (.cells cs 71 fr) → w'.heap[k]? = some (.cells cs 71 fr)) (hd : ∀ (k : Nat) (cs : Array Value) (fr : Nat × Nat), w.heap[k]? = some (.cells cs 344 fr) → w'.heap[k]? = some (.cells cs 344 fr)) : HopsAt w' lo hb x qs := by
  obtain ⟨e1, e2, e3, e4, ⟨vw, vd, g1, g2, g3⟩, e6, e7⟩ := h
  exact ⟨e1, e2, e3, e4, ⟨vw, vd, h1.trans g1, own_of g2 (fun g cur hg => hs g cur _ hg), g3.of (fun g cur hg => hd g cur _ hg)⟩, fun q hq2 => ⟨(e6 q hq2).1, (e6 q hq2).2.1.keepB (hq q hq2) ha, (e6 q hq2).2.2⟩, e7⟩
theorem HopsAt.frT {K : TypeId → Bool} {mp : Bool} (h : HopsAt w lo hb x qs) (hf : Fr K mp w w') (h0 : K 334 = false) (h1 : K 358 = false) (h2 : K 360 = false) (h3 : K 261 = false) (h4 : K 39 = false) (h5 : K 71 = false) (h6 : K 344 = false) : HopsAt w' lo hb x qs := by
  obtain ⟨cs, hbk⟩ := h.blk
  refine h.keepB (by rw [hbk]; exact hf.cells _ _ _ _ hbk h0) (fun q hq => ?_) (fun k cs fr hk => hf.cells _ _ _ _ hk h4) (fun k cs fr hk => hf.cells _ _ _ _ hk h5) (fun k cs fr hk => hf.cells _ _ _ _ hk h6)
  obtain ⟨cs2, T, e, hT⟩ := (h.dos q hq).2.1.blk
  rw [e]
  exact hf.cells _ _ _ _ e (by rcases hT with rfl | rfl | rfl <;> assumption)
end
theorem zk {w w' : World} (hz : ZKeep zRm w w') (T : TypeId) (hT : zRm T = true) : ∀ (k : Nat) (cs : Array Value) (fr : Nat × Nat), w.heap[k]? = some (.cells cs T fr) → w'.heap[k]? = some (.cells cs T fr) := fun k cs fr h => hz k cs T fr h hT
theorem zk_wy {w w' : World} (hz : ZKeep zRm w w') : ZKeep zWy w w' := fun k cs T fr h hT => hz k cs T fr h (by unfold zWy at hT; rw [beq_iff_eq] at hT; subst hT; rfl)
theorem RmSrch.keep {w w' : World} {lo : Nat} {d : RPd} (h : RmSrch w lo d) (hk : ∀ k, (k = d.xb ∨ k = d.rwb ∨ k = d.wy.kb ∨ k = d.kr ∨ d.wy.mo = some k) → w'.heap[k]? = w.heap[k]?) (hz : ZKeep zRm w w') : RmSrch w' lo d :=
  ⟨h.line, h.l, h.xw, h.yw, h.p.keepB (hk _ (.inl rfl)) (hk _ (.inr (.inr (.inl rfl)))) (fun m hm => hk _ (.inr (.inr (.inr (.inr hm))))) (zk_wy hz), h.r.keepB (hk _ (.inr (.inl rfl))) (hk _ (.inr (.inr (.inr (.inl rfl))))) (zk_wy hz), h.ok, h.ov, h.sl⟩
theorem RmHop.keep {w w' : World} {lo : Nat} {d : RPd} (h : RmHop w lo d) (hk : ∀ k, (k = d.hb ∨ k = d.rhb ∨ k ∈ d.qs.map Prod.fst ∨ k ∈ d.rqs.map Prod.fst) → w'.heap[k]? = w.heap[k]?) (hz : ZKeep zRm w w') : RmHop w' lo d :=
  ⟨h.line, h.l, h.xh, h.yh, h.p.keepB (hk _ (.inl rfl)) (fun q hq => hk _ (.inr (.inr (.inl (List.mem_map.2 ⟨q, hq, rfl⟩))))) (zk hz _ rfl) (zk hz _ rfl) (zk hz _ rfl), h.r.keep (hk _ (.inr (.inl rfl))) (fun q hq => hk _ (.inr (.inr (.inr (List.mem_map.2 ⟨q, hq, rfl⟩))))) (zk hz _ rfl) (zk hz _ rfl), h.left, h.wf, h.sp⟩
theorem RmSrch.lower {w : World} {lo lo' : Nat} {d : RPd} (h : RmSrch w lo d) (hl : lo' ≤ lo) : RmSrch w lo' d := ⟨h.line, h.l, h.xw, h.yw, h.p.lower hl, h.r.lower hl, h.ok, h.ov, h.sl⟩
theorem RmHop.lower {w : World} {lo lo' : Nat} {d : RPd} (h : RmHop w lo d) (hl : lo' ≤ lo) : RmHop w lo' d := ⟨h.line, h.l, h.xh, h.yh, h.p.lower hl, h.r.lower hl, h.left, h.wf, h.sp⟩
theorem rm_blk {w : World} {lo : Nat} {o : PO RPd} {S : Nat → Prop} (h : RmP w lo o S) {k : Nat} (hk : rmSet o k) : lo ≤ k ∧ ((∃ cs T fr, w.heap[k]? = some (.cells cs T fr) ∧ qRm T = true) ∨ (o.a.x.ph = .search ∧ o.a.wy.mo = some k ∧ ∃ es cl, w.heap[k]? = some (.map es cl))) := by
  rcases hk with rfl | rfl | ⟨hl, rfl⟩ | ⟨hp, hk⟩ | ⟨hp, hk⟩
  · obtain ⟨cs, e⟩ := h.p.at_.blk
    exact ⟨h.p.low, .inl ⟨_, _, _, e, rfl⟩⟩
  · exact ⟨h.r.low, .inl ⟨_, _, _, h.r.blk, rfl⟩⟩
  · obtain ⟨h0, cs, e⟩ := h.p.row hl
    exact ⟨h0, .inl ⟨_, _, _, e, rfl⟩⟩
  · have hs := h.srch hp
    rcases hk with rfl | rfl | rfl | rfl | hk
    · obtain ⟨cs, e⟩ := hs.p.blkB; exact ⟨hs.p.low, .inl ⟨_, _, _, e, rfl⟩⟩
    · obtain ⟨cs, e⟩ := hs.r.blkB; exact ⟨hs.r.low, .inl ⟨_, _, _, e, rfl⟩⟩
    · obtain ⟨h0, cs, T, e, hT⟩ := hs.p.kbB; exact ⟨h0, .inl ⟨_, _, _, e, by rcases hT with rfl | rfl <;> rfl⟩⟩
    · obtain ⟨h0, cs, T, e, hT⟩ := hs.r.krB; exact ⟨h0, .inl ⟨_, _, _, e, by rcases hT with rfl | rfl <;> rfl⟩⟩
    · obtain ⟨h0, h1⟩ := hs.p.mp _ hk
      obtain ⟨es, cl, e⟩ := h1.blk
      exact ⟨h0, .inr ⟨hp, hk, es, cl, e⟩⟩
  · have hs := h.hop hp
    rcases hk with rfl | rfl | hk | hk
    · obtain ⟨cs, e⟩ := hs.p.blk; exact ⟨hs.p.low, .inl ⟨_, _, _, e, rfl⟩⟩
    · obtain ⟨cs, e⟩ := hs.r.m.blk; exact ⟨hs.r.m.low, .inl ⟨_, _, _, e, rfl⟩⟩
    · obtain ⟨q, hq, rfl⟩ := List.mem_map.1 hk
      obtain ⟨cs, T, e, hT⟩ := (hs.p.dos q hq).2.1.blk
      exact ⟨(hs.p.dos q hq).1, .inl ⟨_, _, _, e, by rcases hT with rfl | rfl | rfl <;> rfl⟩⟩
    · obtain ⟨q, hq, rfl⟩ := List.mem_map.1 hk
      obtain ⟨cs, e⟩ := (hs.r.m.dos q hq).1.blk
      exact ⟨(hs.r.m.dos q hq).1.low, .inl ⟨_, _, _, e, by rcases q.2.rty_or with c | c <;> rw [c] <;> rfl⟩⟩
theorem rm_law : POLaw (α := RPd) 104 qRm zRm RmP where
  q := fun T hT => by
    unfold qRm kPr kRf at hT
    simp only [Bool.or_eq_true, beq_iff_eq] at hT
    rcases hT with ((((((rfl | rfl) | rfl) | rfl) | rfl) | rfl) | rfl) | (((((rfl | rfl) | rfl) | rfl) | rfl) | rfl) <;> exact ⟨rfl, by decide, by decide, rfl⟩
  z := fun T hT => by
    unfold zRm at hT
    simp only [Bool.or_eq_true, beq_iff_eq] at hT
    rcases hT with (rfl | rfl) | rfl <;> exact ⟨rfl, by decide⟩
  ot := ⟨rfl, by decide⟩
  keep := fun {w w' lo o S} h hs hk hz => by
    have e := h.s
    have k : ∀ k, rmSet o k → w'.heap[k]? = w.heap[k]? := fun k hk2 => hk k (by rw [e]; exact hk2)
    exact ⟨h.p.keep (k _ (.inl rfl)) (fun hl => k _ (.inr (.inr (.inl ⟨hl, rfl⟩)))), ⟨h.r.low, (k _ (.inr (.inl rfl))).trans h.r.blk⟩, h.is, h.geo, h.off, h.look, fun hp => (h.srch hp).keep (fun q hq => k q (.inr (.inr (.inr (.inl ⟨hp, hq⟩))))) hz, fun hp => (h.hop hp).keep (fun q hq => k q (.inr (.inr (.inr (.inr ⟨hp, hq⟩))))) hz, e⟩
  lo := fun {w lo o S k} h hk => by
    rw [h.s] at hk
    exact (rm_blk h hk).1
  lower := fun {w lo lo' o S} h hl => ⟨h.p.lower hl, h.r.lower hl, h.is, h.geo, h.off, h.look, fun hp => (h.srch hp).lower hl, fun hp => (h.hop hp).lower hl, h.s⟩
  blk := fun {w lo o S k} h hk => by
    rw [h.s] at hk
    rcases (rm_blk h hk).2 with e | ⟨-, -, e⟩
    · exact .inl e
    · exact .inr e
end Go.Proofs.YtmakjfeepmiggaaGreat
namespace Go.Proofs.YtmakjfeepmiggaaGreat
open Go.RowKit Go.Maps TagPure
set_option linter.unusedVariables false
theorem DPS.nx {w0 w w2 : World} {B R : WB} {V V' : WV} {s s' : CS} {x x' : RS} {m : Nat} (h : DPS w0 w B R V s x m) (hw : WS w0 w2 B V' s') (hr : RD w0 w2 R V' x') (ha : Alike s' x') (hf : Far s' x' (300 + m + 1)) (hc : V'.c = V.c) (hi : V'.its = V.its) (hn : V'.nts.length ≤ V.nts.length + 1) (hst : Nsteps V'.nts s'.cnt) (hk : Nkinds V'.nts) : DPS w0 w2 B R V' s' x' (m + 1) :=
  ⟨⟨hw, hr, ha⟩, hf, by rw [hc]; exact h.cok, by have := h.nn; omega, by rw [hi]; have := h.ni; omega, hst, hk⟩
theorem DPS.nxa {w0 w w2 : World} {B R : WB} {V : WV} {s : CS} {x : RS} {m : Nat} (h : DPS w0 w B R V s x m) (a i : Int) (fm : List (Nat × Array MapEntry × Nat)) (hw : WS w0 w2 B { V with fm := fm } (s.acc 1 a i)) (hr : RD w0 w2 R V (x.acc 1 a i)) : DPS w0 w2 B R { V with fm := fm } (s.acc 1 a i) (x.acc 1 a i) (m + 1) :=
  h.nx hw ⟨hr.below, hr.ref, hr.blk, hr.lo, hr.ar, hr.nt, hr.tkl⟩ (h.pr.al.acc _ _ _) (h.far.acc h.pr.al _ _ _) rfl rfl (Nat.le_succ _) (h.st.le (by simp only [CS.acc]; omega)) h.nk
theorem DPS.nx0 {w0 w w2 : World} {B R : WB} {V : WV} {s : CS} {x : RS} {m : Nat} (h : DPS w0 w B R V s x m) (a i : Int) (hw : WS w0 w2 B V (s.acc 1 a i)) (hr : RD w0 w2 R V (x.acc 1 a i)) : DPS w0 w2 B R V (s.acc 1 a i) (x.acc 1 a i) (m + 1) := h.nxa a i V.fm hw hr
structure FRp (S : Nat → Prop) (w w' : World) : Prop where
  size : w.heap.size ≤ w'.heap.size
  cells : ∀ (k : Nat) (cs : Array Value) (T : TypeId) (fr : Nat × Nat), w.heap[k]? = some (.cells cs T fr) → rTy T = false → ¬ S k → w'.heap[k]? = some (.cells cs T fr)
  map : ∀ (k : Nat) (es : Array MapEntry) (cl : Nat), w.heap[k]? = some (.map es cl) → w'.heap[k]? = some (.map es cl)
theorem FR.p {L : List Nat} {S : Nat → Prop} {w w' : World} (h : FR L w w') (hS : ∀ k ∈ L, S k) : FRp S w w' := ⟨h.size, fun k cs T fr g1 g2 g3 => h.cells k cs T fr g1 g2 (fun c => g3 (hS k c)), h.map⟩
theorem FR.ty {L : List Nat} {w w' : World} (h : FR L w w') (hL : ∀ k ∈ L, ∃ cs T fr, w.heap[k]? = some (.cells cs T fr) ∧ kRf T = true) : Fr (fun X => rTy X || kRf X) false w w' := by
  refine ⟨h.size, fun k cs T fr g1 g2 => ?_, fun _ => h.map⟩
  simp only [Bool.or_eq_false_iff] at g2
  refine h.cells k cs T fr g1 g2.1 (fun c => ?_)
  obtain ⟨cs2, T2, fr2, e, hT⟩ := hL k c
  rw [← ocell_ty g1 e, g2.2] at hT
  cases hT
theorem FS.ty {L : List Nat} {w w' : World} (h : FS L w w') (hL : ∀ k ∈ L, ∃ cs T fr, w.heap[k]? = some (.cells cs T fr) ∧ kPr T = true) : Fr (fun X => wTy X || kPr X) true w w' := by
  refine ⟨h.size, fun k cs T fr g1 g2 => ?_, fun c => by cases c⟩
  simp only [Bool.or_eq_false_iff] at g2
  refine h.cells k cs T fr g1 g2.1 (fun c => ?_)
  obtain ⟨cs2, T2, fr2, e, hT⟩ := hL k c
  rw [← ocell_ty g1 e, g2.2] at hT
  cases hT
theorem w_not_qr (T : TypeId) (h : wTy T = true) : (rTy T || kRf T) = false := by
  rw [w_not_r T h, Bool.false_or]
  unfold wTy at h
  simp only [Bool.or_eq_true, beq_iff_eq] at h
  rcases h with ((((((rfl | rfl) | rfl) | rfl) | rfl) | rfl) | rfl) | rfl <;> rfl
theorem r_not_qp (T : TypeId) (h : rTy T = true) : (wTy T || kPr T) = false := by
  rw [r_not_w T h, Bool.false_or]
  unfold rTy at h
  simp only [Bool.or_eq_true, beq_iff_eq] at h
  rcases h with (((((rfl | rfl) | rfl) | rfl) | rfl) | rfl) | rfl <;> rfl
theorem y_not_qr (T : TypeId) (h : yTy T = true) : (rTy T || kRf T) = false := by
  unfold yTy at h
  simp only [Bool.or_eq_true, beq_iff_eq] at h
  rcases h with (rfl | rfl) | rfl <;> rfl
theorem ry_not_qp (T : TypeId) (h : ryTy T = true) : (wTy T || kPr T) = false := by
  unfold ryTy at h
  simp only [Bool.or_eq_true, beq_iff_eq] at h
  rcases h with (rfl | rfl) | rfl <;> rfl
theorem ofr_of {S : Nat → Prop} {L : List Nat} {V V' : WV} {w0 w w1 w2 : World} {B : WB} {s' : CS} (h1 : FRp S w w1) (h2 : FS L w1 w2) (hL : ∀ k ∈ L, S k ∨ w.heap.size ≤ k) (hws : WS w0 w2 B V' s') (hV : ∀ q ∈ V.fm, ¬ S q.1 → q ∈ V'.fm) : OFr S V V' w w2 := by
  refine ⟨Nat.le_trans h1.size h2.size, fun k cs T fr hk hT hn => ?_, fun k es cl hk hv hn => ?_⟩
  · unfold wrTy at hT
    simp only [Bool.or_eq_false_iff] at hT
    refine h2.cells k cs T fr (h1.cells k cs T fr hk hT.2 hn) hT.1 (fun c => ?_)
    rcases hL k c with c | c
    · exact hn c
    · have := heap_lt hk; omega
  · have hv' := hV _ hv hn
    exact ⟨(hws.fmk _ hv').1, hv'⟩
def RmFin (w0 w : World) (B R : WB) (V : WV) (m : Nat) (o : PO RPd) (S : Nat → Prop) (y' : RR) (w2 : World) : Prop :=
  ∃ (d : RPd) (V' : WV) (s' : CS) (x' : RS) (S' : Nat → Prop), d.y = y' ∧ DPS w0 w2 B R V' s' x' (m + 1) ∧ RmP w2 w0.heap.size ⟨o.pb, o.rb, d⟩ S' ∧ MapsIn w2 V' S' ∧ (∀ k, S' k → S k ∨ w.heap.size ≤ k) ∧ OFr S V V' w w2
def RmTwo (w0 w : World) (B R : WB) (V : WV) (m : Nat) (o : PO RPd) (S : Nat → Prop) : Prop :=
  ∃ M : RR → World → Prop,
    (Calls Tryz.prog 36 #[.pointer (some ⟨o.rb, 0, none⟩), .pointer (some ⟨R.wb, 0, none⟩)] w fun e w' => e = .returned (.tuple #[]) ∧ ∃ y', M y' w') ∧
    (∀ y' w1, M y' w1 → RRoomAt w1 w0.heap.size o.rb y' ∧ FRp S w w1) ∧
    (∀ y' w1 w2, M y' w1 → Below w1.heap.size w1 w2 → M y' w2) ∧
    (∀ y' w1, M y' w1 → Calls Tryz.prog 37 #[.pointer (some ⟨o.pb, 0, none⟩), .pointer (some ⟨B.wb, 0, none⟩)] w1 fun e w2 => e = .returned (.bool (y'.line == 0)) ∧ RmFin w0 w B R V m o S y' w2)
theorem FR.below {L : List Nat} {w w1 w2 : World} (h : FR L w w1) (hb : Below w1.heap.size w1 w2) : FR L w w2 := h.trans (fR_below hb)
theorem FRp.below {S : Nat → Prop} {w w1 w2 : World} (h : FRp S w w1) (hb : Below w1.heap.size w1 w2) : FRp S w w2 := ⟨Nat.le_trans h.size hb.size, fun k cs T fr g1 g2 g3 => (hb.block _ (heap_lt (h.cells k cs T fr g1 g2 g3))).trans (h.cells k cs T fr g1 g2 g3), fun k es cl g => (hb.block _ (heap_lt (h.map k es cl g))).trans (h.map k es cl g)⟩
theorem rm_none {w : World} {lo : Nat} {pb rb : Nat} {d : RPd} (hp : RoomAtB w lo pb d.x d.lb) (hr : RRoomAt w lo rb d.y) (hph : d.x.ph = .off) (hy : d.y.line = 0) (his : d.y.is = d.x.is ∧ (d.x.is = true → d.y.sb = d.x.sb ∧ d.y.su = d.x.su ∧ d.y.sk = d.x.sk)) : RmP w lo ⟨pb, rb, d⟩ (rmSet ⟨pb, rb, d⟩) :=
  ⟨hp, hr, his, fun c => absurd hph c, fun _ => hy, fun c => (by simp only at c; rw [hph] at c; cases c), fun c => (by simp only at c; rw [hph] at c; cases c), fun c => (by simp only at c; rw [hph] at c; cases c), rfl⟩
theorem mapsin_ty {w : World} {lo : Nat} {o : PO RPd} {V : WV} (h : RmP w lo o (rmSet o)) (hp : o.a.x.ph ≠ .search) : MapsIn w V (rmSet o) := by
  intro k es cl hk he
  rcases (rm_blk h hk).2 with ⟨cs, T, fr, e, -⟩ | ⟨c, -, -⟩
  · rw [he] at e; cases e
  · exact absurd c hp
section
variable {w0 w w1 : World} {B R : WB} {V : WV} {s : CS} {x : RS} {m : Nat} {o : PO RPd} {S : Nat → Prop}
theorem rm_S (ho : RmP w w0.heap.size o S) {k : Nat} (hk : rmSet o k) : S k := by rw [ho.s]; exact hk
theorem rmtwo_off (h : DPS w0 w B R V s x m) (ho : RmP w w0.heap.size o S) (hp : o.a.x.ph = .off) : RmTwo w0 w B R V m o S := by
  have hy := ho.off hp
  refine ⟨fun y' w1 => y' = o.a.y ∧ Below w.heap.size w w1, ?_, ?_, ?_, ?_⟩
  · refine (rrstep0 ho.r hy _).mono fun e w' hh => ?_
    obtain ⟨h1, rfl⟩ := hh
    exact ⟨h1, _, rfl, Below.refl _ _⟩
  · rintro y' w1 ⟨rfl, hb⟩
    exact ⟨ho.r.below hb, (FR.p (L := []) (fR_below hb) (fun k hk => by cases hk))⟩
  · rintro y' w1 w2 ⟨rfl, hb⟩ hb2
    exact ⟨rfl, hb.trans (hb2.mono hb.size)⟩
  · rintro y' w1 ⟨rfl, hb⟩
    have hp1 := ho.p.below hb
    refine (rmstep_over hp1.at_ hp _).mono fun e w2 hh => ?_
    obtain ⟨h1, rfl⟩ := hh
    have hdp := (h.keep hb).le (Nat.le_succ m)
    have hP : RmP w2 w0.heap.size ⟨o.pb, o.rb, o.a⟩ (rmSet ⟨o.pb, o.rb, o.a⟩) := rm_none hp1 (ho.r.below hb) hp hy ho.is
    refine ⟨by rw [hy]; exact h1, o.a, V, s, x, _, rfl, hdp, hP, mapsin_ty hP (by simp only; rw [hp]; decide), fun k hk => .inl (rm_S ho hk), ?_⟩
    exact ofr_of (L := []) (FR.p (L := []) (fR_below hb) (fun k hk => by cases hk)) (below_fs [] (Below.refl _ _)) (fun k hk => by cases hk) hdp.pr.ws fun q hq _ => hq
theorem rm_fr1 (ho : RmP w w0.heap.size o S) {w' : World} (h : Fx rTy false o.rb w w') : FRp S w w' ∧ Fr (fun X => rTy X || kRf X) false w w' := by
  have hf := fR_fx (S := [o.rb]) h (fun _ h => h) List.mem_cons_self ho.r.blk
  exact ⟨hf.p (fun k hk => by obtain rfl := List.mem_singleton.1 hk; exact rm_S ho (.inr (.inl rfl))), hf.ty (fun k hk => by obtain rfl := List.mem_singleton.1 hk; exact ⟨_, _, _, ho.r.blk, rfl⟩)⟩
theorem rm_fr2 {w2 : World} {xm : RM} {lb : Nat} (hp : RoomAtB w1 w0.heap.size o.pb xm lb) (h : Fx wTy true o.pb w1 w2) : FS [o.pb] w1 w2 ∧ Fr (fun X => wTy X || kPr X) true w1 w2 := by
  obtain ⟨cs, e⟩ := hp.at_.blk
  have hf := h.fs (S := [o.pb]) List.mem_cons_self
  exact ⟨hf, hf.ty (fun k hk => by obtain rfl := List.mem_singleton.1 hk; exact ⟨_, _, _, e, rfl⟩)⟩
theorem rmtwo_look (h : DPS w0 w B R V s x m) (hm : m ≤ 1000) (ho : RmP w w0.heap.size o S) (hp : o.a.x.ph = .look) (c : Int) (r : List Int) (hl : o.a.x.l = c :: r) (hrl : r.length ≤ 10) (hgo : 0 ≤ frW (s.val (tagsA o.a.x.bits c)) ∨ r ≠ []) (y2 : RR)
    (hd : Calls Tryz.prog 36 #[.pointer (some ⟨o.rb, 0, none⟩), .pointer (some ⟨R.wb, 0, none⟩)] w fun e w' => e = .returned (.tuple #[]) ∧ RRB w0 w w' R V (x.acc 1 (tagsA o.a.x.bits c) (s.val (tagsA o.a.x.bits c))) o.rb y2)
    (hx : ∀ wX, RoomAtB wX w0.heap.size o.pb (o.a.x.look (s.val (tagsA o.a.x.bits c))) o.a.lb → RRoomAt wX w0.heap.size o.rb y2 → RmP wX w0.heap.size ⟨o.pb, o.rb, { o.a with x := o.a.x.look (s.val (tagsA o.a.x.bits c)), y := y2 }⟩ (rmSet ⟨o.pb, o.rb, { o.a with x := o.a.x.look (s.val (tagsA o.a.x.bits c)), y := y2 }⟩)) (hns : (o.a.x.look (s.val (tagsA o.a.x.bits c))).ph = .look ∨ (o.a.x.look (s.val (tagsA o.a.x.bits c))).ph = .off) (hln : (y2.line == 0) = decide ((o.a.x.look (s.val (tagsA o.a.x.bits c))).ph = .off)) : RmTwo w0 w B R V m o S := by
  obtain ⟨rm1, rm2⟩ := far_rooms h.far h.pr.al (by omega)
  refine ⟨fun y' w1 => y' = y2 ∧ RRB w0 w w1 R V (x.acc 1 (tagsA o.a.x.bits c) (s.val (tagsA o.a.x.bits c))) o.rb y2, ?_, ?_, ?_, ?_⟩
  · exact hd.mono fun e w' hh => ⟨hh.1, _, rfl, hh.2⟩
  · rintro y' w1 ⟨rfl, hB⟩
    exact ⟨hB.rm, (rm_fr1 ho hB.fx).1⟩
  · rintro y' w1 w2 ⟨rfl, hB⟩ hb
    exact ⟨rfl, hB.below hb⟩
  · rintro y' w1 ⟨rfl, hB⟩
    obtain ⟨f1, f2⟩ := rm_fr1 ho hB.fx
    have hws := h.pr.ws.fr f2 w_not_qr hB.rd.below
    have hp1 := ho.p.fr f2 rfl rfl
    refine (rmstep_lookB hws rm1 hp1 hp c r hl hrl hgo).mono fun e w2 hh => ?_
    obtain ⟨h1, h2⟩ := hh
    obtain ⟨g1, g2⟩ := rm_fr2 hp1 h2.fx
    have hrd2 := hB.rd.fr g2 r_not_qp h2.ws.below
    have hP := hx w2 h2.rb_ (hB.rm.fr g2 rfl)
    refine ⟨by rw [hln]; exact h1, _, V, _, _, _, rfl, h.nx0 _ _ h2.ws hrd2, hP, mapsin_ty hP ?_, ?_, ?_⟩
    · simp only
      rcases hns with c | c <;> rw [c] <;> decide
    · intro k hk
      have hxl : (o.a.x.look (s.val (tagsA o.a.x.bits c))).l = r := by unfold RM.look; rw [hl]; simp only; split <;> rfl
      have hnl : o.a.x.l ≠ [] := by rw [hl]; exact List.cons_ne_nil _ _
      rcases hk with e | e | ⟨-, e⟩ | ⟨c1, -⟩ | ⟨c1, -⟩
      · exact .inl (rm_S ho (.inl e))
      · exact .inl (rm_S ho (.inr (.inl e)))
      · exact .inl (rm_S ho (.inr (.inr (.inl ⟨hnl, e⟩))))
      · simp only at c1; rcases hns with c2 | c2 <;> rw [c2] at c1 <;> cases c1
      · simp only at c1; rcases hns with c2 | c2 <;> rw [c2] at c1 <;> cases c1
    · exact ofr_of f1 g1 (fun k hk => by obtain rfl := List.mem_singleton.1 hk; exact .inl (rm_S ho (.inl rfl))) h2.ws fun q hq _ => hq
end
end Go.Proofs.YtmakjfeepmiggaaGreat