import Derived.Test.YtmakjfeepmiggaaGreatZ15
import Derived.Test.YtmakjfeepmiggaaGreatZ1
import Derived.Test.YtmakjfeepmiggaaGreatZ2
import Derived.Test.YtmakjfeepmiggaaGreatRows
import Derived.Deep.CutBlock
import Derived.Deep.DeepCutAuto
import Derived.Shelf.SlicesQ.Reverse
namespace Go.Proofs.YtmakjfeepmiggaaGreat
open Go.RowKit Go.Maps
set_option linter.unusedVariables false
structure WY where
  bits : Int
  most : Int
  l : List Nd
  at_ : Nat
  way : List (Int × Int)
  over : Bool
  made : Bool
  kb : Nat
  mo : Option Nat
def WY.cells (x : WY) (vb vw : Value) : Array Value := #[.int .i64 x.bits, .int .i64 x.most, vb, .map x.mo, .int .i64 x.at_, vw, .bool x.over, .bool x.made]
def backF (l : List Nd) (b : Int) : Option (Int × Int) := (l.find? (·.1 == b)).map (·.2)
def flatS (bits : Int) (l : List (Int × Int)) : List Value := l.flatMap fun p => [.int .i64 bits, .int .i64 p.1, .int .i64 p.2]
def nodeL (b : Int) (f : Int × Int) (l : List Nd) : List Nd := if b ∈ bks l then l else l ++ [(b, f)]
def intV (l : List Int) : List Value := l.map (Value.int .i64)
def KbOk (v : Value) (kb xb : Nat) : Prop := v.ownBlock = some kb ∨ (v.ownBlock = none ∧ kb = xb)
structure WayAt (w : World) (lo xb : Nat) (x : WY) : Prop where
  low : lo ≤ xb
  ex : ∃ vb vw, w.heap[xb]? = some (.cells (x.cells vb vw) 135 (0, 0)) ∧ w.ownsRow lo 3 1 vb x.l.length (intV (bks x.l)) ∧ w.ownsRow lo 71 3 vw x.way.length (flatS x.bits x.way) ∧ KbOk vb x.kb xb
  mp : ∀ m, x.mo = some m → lo ≤ m ∧ MapF w m x.l.length (backF x.l)
  isMap : x.made = true → ∃ m, x.mo = some m
  noWay : x.way = [] → w.cell? ⟨xb, 5, none⟩ = some (.slice none 0 0)
def yTy (T : TypeId) : Bool := T == 135 || T == 3 || T == 71
theorem flatS_len (b : Int) (l : List (Int × Int)) : (flatS b l).length = l.length * 3 := by
  induction l with
  | nil => rfl
  | cons p l ih => unfold flatS at ih ⊢; simp only [List.flatMap_cons, List.length_append, List.length_cons, List.length_nil, ih]; omega
section
variable {w w' : World} {lo xb : Nat} {x : WY}
theorem WayAt.fr {K : TypeId → Bool} (h : WayAt w lo xb x) (hf : Fr K false w w') (hK : ∀ T, yTy T = true → K T = false) : WayAt w' lo xb x := by
  obtain ⟨h0, ⟨vb, vw, h1, h2, h3, h4⟩, h5, h6, h7⟩ := h
  refine ⟨h0, ⟨vb, vw, hf.cells _ _ _ _ h1 (hK _ rfl), own_fr h2 hf (hK _ rfl), own_fr h3 hf (hK _ rfl), h4⟩, fun m hm => ⟨(h5 m hm).1, ?_⟩, h6, fun e => by have := h7 e; rw [hcell h1] at this; rw [hcell (hf.cells _ _ _ _ h1 (hK _ rfl))]; exact this⟩
  obtain ⟨es, cl, hb⟩ := (h5 m hm).2.blk
  exact (h5 m hm).2.keep ((hf.map rfl _ _ _ hb).trans hb.symm)
theorem WayAt.frm {K : TypeId → Bool} {mp : Bool} (h : WayAt w lo xb x) (hf : Fr K mp w w') (hK : ∀ T, yTy T = true → K T = false) (hm : ∀ m, x.mo = some m → w'.heap[m]? = w.heap[m]?) : WayAt w' lo xb x := by
  obtain ⟨h0, ⟨vb, vw, h1, h2, h3, h4⟩, h5, h6, h7⟩ := h
  exact ⟨h0, ⟨vb, vw, hf.cells _ _ _ _ h1 (hK _ rfl), own_fr h2 hf (hK _ rfl), own_fr h3 hf (hK _ rfl), h4⟩, fun m hm2 => ⟨(h5 m hm2).1, (h5 m hm2).2.keep (hm m hm2)⟩, h6, fun e => by have := h7 e; rw [hcell h1] at this; rw [hcell (hf.cells _ _ _ _ h1 (hK _ rfl))]; exact this⟩
theorem WayAt.below (h : WayAt w lo xb x) (hb : Below w.heap.size w w') : WayAt w' lo xb x := h.fr (below_fr hb (fun _ => false) false) (fun _ _ => rfl)
theorem WayAt.lt (h : WayAt w lo xb x) : xb < w.heap.size := by obtain ⟨_, ⟨va, vv, h1, _⟩, _⟩ := h; exact (Array.getElem?_eq_some_iff.1 h1).1
end
theorem wy_cells {W : World} {q : Nat} {x : WY} {vb vw : Value} (z : W.heap[q]? = some (.cells (x.cells vb vw) 135 (0, 0))) :
    W.cell? ⟨q, 0, none⟩ = some (.int .i64 x.bits) ∧ W.cell? ⟨q, 1, none⟩ = some (.int .i64 x.most) ∧ W.cell? ⟨q, 2, none⟩ = some vb ∧ W.cell? ⟨q, 3, none⟩ = some (.map x.mo) ∧ W.cell? ⟨q, 4, none⟩ = some (.int .i64 x.at_) ∧ W.cell? ⟨q, 5, none⟩ = some vw ∧ W.cell? ⟨q, 6, none⟩ = some (.bool x.over) ∧ W.cell? ⟨q, 7, none⟩ = some (.bool x.made) :=
  ⟨hcell z 0, hcell z 1, hcell z 2, hcell z 3, hcell z 4, hcell z 5, hcell z 6, hcell z 7⟩
theorem wover {w : World} {lo xb : Nat} {x : WY} (h : WayAt w lo xb x) : Calls Tryz.prog 53 #[.pointer (some ⟨xb, 0, none⟩)] w fun e w' => e = .returned (.bool (!x.made || x.over)) ∧ w' = w := by
  obtain ⟨_, ⟨vb, vw, h1, -⟩, -⟩ := h
  obtain ⟨-, -, -, -, -, -, c6, c7⟩ := wy_cells h1
  clear h1
  generalize x.over = o at *
  generalize x.made = m at *
  cases m <;> cases o
  all_goals
    go_enter Tryz.func53, Tryz.ntmps53
    go_wp2
    go_ret
    exact ⟨rfl, rfl⟩
theorem own_sl3 {w : World} {base e size : Nat} {v : Value} {n : Nat} {xs : List Value} (h : w.ownsRow base e size v n xs) : ∃ a cap, v = .slice a n cap ∧ cap ≤ maxLen := by
  obtain ⟨_, ⟨rfl, rfl⟩ | ⟨g, cap, cur, rfl, _, _, _, hm, _⟩⟩ := h
  · exact ⟨none, 0, rfl, Nat.zero_le _⟩
  · exact ⟨_, cap, rfl, hm⟩
theorem backF_none {l : List Nd} {b : Int} (h : b ∉ bks l) : backF l b = none := by
  unfold backF
  rw [List.find?_eq_none.2 (fun x hx c => h (by rw [← beq_iff_eq.1 c]; exact List.mem_map.2 ⟨x, hx, rfl⟩))]; rfl
theorem backF_isSome (l : List Nd) (b : Int) : (backF l b).isSome = decide (b ∈ bks l) := by
  by_cases h : b ∈ bks l
  · rw [decide_eq_true h]
    obtain ⟨x, hx, rfl⟩ := List.mem_map.1 h
    unfold backF
    rw [Option.isSome_map]
    exact List.find?_isSome.2 ⟨x, hx, by simp⟩
  · rw [decide_eq_false h, backF_none h]; rfl
theorem backF_snoc {l : List Nd} {b : Int} (h : b ∉ bks l) (f : Int × Int) : backF (l ++ [(b, f)]) = upd (backF l) b (some f) := by
  funext a
  by_cases ha : a = b
  · subst ha
    rw [upd_same]
    unfold backF
    rw [List.find?_append, List.find?_eq_none.2 (fun x hx c => h (by rw [← beq_iff_eq.1 c]; exact List.mem_map.2 ⟨x, hx, rfl⟩))]
    simp
  · rw [upd_other _ ha]
    unfold backF
    rw [List.find?_append]
    have : ([(b, f)] : List Nd).find? (·.1 == a) = none := by
      simp only [List.find?_cons, List.find?_nil]
      rw [show (b == a) = false from beq_eq_false_iff_ne.2 fun c => ha c.symm]
    rw [this, Option.or_none]
theorem backF_at {l : List Nd} (h : (bks l).Nodup) {i : Nat} (hi : i < l.length) : backF l (nd l i).1 = some (nd l i).2 := by
  induction l generalizing i with
  | nil => simp at hi
  | cons x r ih =>
    have hn := List.nodup_cons.1 (show (x.1 :: bks r).Nodup from h)
    cases i with
    | zero => simp [backF, nd]
    | succ i =>
      have hi2 : i < r.length := by simpa using hi
      have e : nd (x :: r) (i + 1) = nd r i := by simp [nd, List.getD_eq_getElem?_getD]
      rw [e]
      have hne : x.1 ≠ (nd r i).1 := fun c => hn.1 (by rw [c]; exact nd_mem hi2)
      have := ih hn.2 hi2
      unfold backF at this ⊢
      rw [List.find?_cons, show (x.1 == (nd r i).1) = false from beq_eq_false_iff_ne.2 hne]
      exact this
theorem intV_snoc (l : List Nd) (b : Int) (f : Int × Int) : intV (bks (l ++ [(b, f)])) = intV (bks l) ++ [.int .i64 b] := by simp [intV, bks]
def NSet (xb kb m : Nat) (k : Nat) : Prop := k = xb ∨ k = kb ∨ k = m
theorem info_int1 : (Tryz.prog.info? 3).map (fun i => (i.zero, i.size, i.bytes)) = some (some (.int .i64 0), 1, 8) := by kernel_rfl
theorem grown_keeps {w w' : World} {r : Option Nat} (h : w.grownBy w' r) : Keeps (fun k => r = some k) w w' := ⟨h.os, h.tape, h.output, h.size, fun k hk hn => h.block k hk (fun c => hn c.symm)⟩
theorem keeps_mp {S : Nat → Prop} {w w' : World} {m n : Nat} {f : Int → Option (Int × Int)} (h : MapF w m n f) (hk : Keeps S w w') (hn : ¬ S m) : MapF w' m n f := h.keep (hk.block m h.lt hn)
theorem own_keepsS {S : Nat → Prop} {w w' : World} {base e size n : Nat} {v : Value} {xs : List Value} (h : w.ownsRow base e size v n xs) (hk : Keeps S w w') (hn : ∀ k, v.ownBlock = some k → ¬ S k) : w'.ownsRow base e size v n xs := by
  obtain ⟨h1, h2 | ⟨g, cap, cur, rfl, hb, hg, r⟩⟩ := h
  · exact ⟨h1, .inl h2⟩
  · exact ⟨h1, .inr ⟨g, cap, cur, rfl, hb, (hk.block g (Array.getElem?_eq_some_iff.1 hg).1 (hn g rfl)).trans hg, r⟩⟩
theorem own_blk {w : World} {base e size n : Nat} {v : Value} {xs : List Value} (h : w.ownsRow base e size v n xs) {k : Nat} (hk : v.ownBlock = some k) : ∃ cur, w.heap[k]? = some (.cells cur e (0, 0)) := by
  obtain ⟨h1, ⟨rfl, _⟩ | ⟨g, cap, cur, rfl, hb, hg, r⟩⟩ := h
  · cases hk
  · simp only [Value.ownBlock, Option.some.injEq] at hk
    subst hk; exact ⟨cur, hg⟩
theorem map_ne_cells {w : World} {m k : Nat} {es : Array MapEntry} {cl : Nat} {cs : Array Value} {T : TypeId} {fr : Nat × Nat} (h1 : w.heap[m]? = some (.map es cl)) (h2 : w.heap[k]? = some (.cells cs T fr)) : m ≠ k := fun e => by subst e; rw [h1] at h2; cases h2
theorem cells_ne {w : World} {m k : Nat} {cs cs' : Array Value} {T T' : TypeId} {fr fr' : Nat × Nat} (h1 : w.heap[m]? = some (.cells cs T fr)) (h2 : w.heap[k]? = some (.cells cs' T' fr')) (hT : T ≠ T') : m ≠ k := fun e => by
  subst e; rw [h1] at h2; simp only [Option.some.injEq, Obj.cells.injEq] at h2; exact hT h2.2.1
set_option maxRecDepth 10000 in
set_option maxHeartbeats 2000000 in
theorem node_any {w : World} {lo xb m : Nat} {x : WY} (h : WayAt w lo xb x) (hlo : lo ≤ w.heap.size) (hm : x.mo = some m) (hl : x.l.length ≤ 100000) (b : Int) (hb : (Lit.int .i64 b).wf = true) (f : Int × Int) :
    Calls Tryz.prog 50 #[.pointer (some ⟨xb, 0, none⟩), .int .i64 b, .agg #[.int .i64 f.1, .int .i64 f.2]] w fun e w' => e = .returned (.tuple #[]) ∧ ∃ kb, WayAt w' lo xb { x with l := nodeL b f x.l, kb := kb } ∧ Keeps (NSet xb x.kb m) w w' ∧ (kb = x.kb ∨ w.heap.size ≤ kb) := by
  obtain ⟨f1, f2⟩ := f
  obtain ⟨h0, ⟨vb, vw, h1, h2, h3, h4⟩, h5, h6, h7⟩ := h
  have h7 : x.way = [] → vw = .slice none 0 0 := fun e => by have := h7 e; rw [hcell h1] at this; exact Option.some.inj this
  obtain ⟨hlm, hmp⟩ := h5 m hm
  obtain ⟨i0, hi0, hz0, hz1, hz2⟩ := info_parts info_int1
  obtain ⟨a, cap, hvb, hcap⟩ := own_sl3 h2
  obtain ⟨es, cl, hmb⟩ := hmp.blk
  have hmx : m ≠ xb := map_ne_cells hmb h1
  have hvk : ∀ k, vb.ownBlock = some k → k = x.kb := fun k hk => by rcases h4 with h | ⟨h, _⟩ <;> rw [h] at hk <;> cases hk; rfl
  have hkx : ∀ k, vb.ownBlock = some k → k ≠ xb ∧ k ≠ m := fun k hk => by
    obtain ⟨cur, hc⟩ := own_blk h2 hk
    exact ⟨cells_ne hc h1 (by decide), (map_ne_cells hmb hc).symm⟩
  have hwk : ∀ k, vw.ownBlock = some k → k ≠ xb ∧ k ≠ m ∧ (vb.ownBlock ≠ some k) := fun k hk => by
    obtain ⟨cur, hc⟩ := own_blk h3 hk
    refine ⟨cells_ne hc h1 (by decide), (map_ne_cells hmb hc).symm, fun e => ?_⟩
    obtain ⟨cur2, hc2⟩ := own_blk h2 e
    exact cells_ne hc hc2 (by decide) rfl
  have HI := Lib.hid hi0; have HZ0 := Lib.hid hz0; have HZ1 := Lib.hid hz1; have HZ2 := Lib.hid hz2
  clear hi0 hz0 hz1 hz2
  -- the box
  have hb1 := below_alloc w (.cells #[.int .i64 f1, .int .i64 f2] 139)
  have hzb := heap_alloc_new w (.cells #[.int .i64 f1, .int .i64 f2] 139)
  have g1 := (hb1.block _ (Array.getElem?_eq_some_iff.1 h1).1).trans h1
  obtain ⟨p, hlk⟩ := (hmp.below hb1).is hb
  rw [backF_isSome] at hlk
  obtain ⟨d, hd⟩ : ∃ d, d = decide (b ∈ bks x.l) := ⟨_, rfl⟩
  rw [← hd] at hlk
  have c3 : (w.alloc (.cells #[.int .i64 f1, .int .i64 f2] 139)).cell? ⟨xb, 3, none⟩ = some (.map (some m)) := by rw [← hm]; exact hcell g1 3
  have HB1 := Lib.hid hb1; have HZB := Lib.hid hzb; have G1 := Lib.hid g1; have H2 := Lib.hid (own_fr h2 (below_fr hb1 (fun _ => false) false) rfl); have H3 := Lib.hid (own_fr h3 (below_fr hb1 (fun _ => false) false) rfl); have H4 := Lib.hid h4; have H6 := Lib.hid h6; have H7 := Lib.hid h7; have HM := Lib.hid hm; have HMP := Lib.hid (hmp.below hb1); have HLO := Lib.hid hlo; have HL := Lib.hid hl; have HVB := Lib.hid hvb; have H0 := Lib.hid (And.intro h0 hlm); have HBW := Lib.hid hb; have HD := Lib.hid hd; have HMX := Lib.hid hmx; have HVK := Lib.hid hvk; have HKX := Lib.hid hkx; have HWK := Lib.hid hwk; have HLT := Lib.hid (Array.getElem?_eq_some_iff.1 h1).1; have HMT := Lib.hid hmp.lt
  clear h0 h1 h2 h3 h4 h5 h6 h7 hlm hmp hvb hb1 hzb g1 hlo hl hb hd hm hmb hmx hvk hkx hwk
  go_enter Tryz.func50, Tryz.ntmps50
  go_upto_region 1 with (fail)
  change Code.wp _ _ _ _ (w.alloc (.cells #[.int .i64 f1, .int .i64 f2] 139))
  generalize w.alloc (.cells #[.int .i64 f1, .int .i64 f2] 139) = w1 at *
  obtain ⟨bq, hbq⟩ : ∃ bq, bq = w.heap.size := ⟨_, rfl⟩
  rw [← hbq] at HZB
  simp only [← hbq]
  have HBQ := Lib.hid hbq
  clear hbq
  go_upto_region 2 with (fail)
  have hb2 := below_alloc w1 (.cells #[.int .i64 p.1, .int .i64 p.2] 139)
  change Code.wp _ _ _ _ (w1.alloc (.cells #[.int .i64 p.1, .int .i64 p.2] 139))
  have HB2 : Hid (Below w.heap.size w (w1.alloc (.cells #[.int .i64 p.1, .int .i64 p.2] 139))) := HB1.out.trans (hb2.mono HB1.out.size)
  have G2 := Lib.hid ((hb2.block _ (Array.getElem?_eq_some_iff.1 G1.out).1).trans G1.out)
  have K2 := Lib.hid (own_fr H2.out (below_fr hb2 (fun _ => false) false) rfl)
  have L2 := Lib.hid (own_fr H3.out (below_fr hb2 (fun _ => false) false) rfl)
  have M2 := Lib.hid (HMP.out.below hb2)
  have Z2 := Lib.hid ((hb2.block _ (Array.getElem?_eq_some_iff.1 HZB.out).1).trans HZB.out)
  clear c3 hlk hb2 HB1 G1 H2 H3 HMP HZB
  generalize w1.alloc (.cells #[.int .i64 p.1, .int .i64 p.2] 139) = w2 at *
  cases d
  rotate_left
  · go_wp2
    go_end0
    have hmem : b ∈ bks x.l := of_decide_eq_true HD.out.symm
    refine ⟨rfl, x.kb, ?_, below_keeps HB2.out _, .inl rfl⟩
    rw [show nodeL b (f1, f2) x.l = x.l from if_pos hmem]
    exact ⟨H0.out.1, ⟨vb, vw, G2.out, K2.out, L2.out, H4.out⟩, fun m' hm' => by
      rw [HM.out] at hm'
      cases hm'
      exact ⟨H0.out.2, M2.out⟩, H6.out, fun e => by rw [hcell G2.out]; exact congrArg some (H7.out e)⟩
  · have hnm : b ∉ bks x.l := of_decide_eq_false HD.out.symm
    have c3 : w2.cell? ⟨xb, 3, none⟩ = some (.map (some m)) := by rw [← HM.out]; exact hcell G2.out 3
    have x3 := fun st : ExtW w2 => st.cell c3
    have x5 := fun st : ExtW w2 => st.cell (hcell Z2.out 0)
    have x6 := fun st : ExtW w2 => st.cell (hcell Z2.out 1)
    clear c3
    go_upto_region 3 with (fail)
    refine wp_region_ext_tail 6 (by kernel_rfl) (by kernel_rfl) ?_
    simp only [List.take_succ_cons, List.take_zero, List.drop_succ_cons, List.drop_zero]
    repeat (go_big_quiet_step (fail))
    refine wpQuiet_nil ?_
    rintro W ⟨⟨W2, hW⟩, rfl⟩
    clear x3 x5 x6
    have MW := Lib.hid (M2.out.below hW)
    have HWB := Lib.hid hW
    clear hW
    go_upto_region 4 with (at_mapUpdate; refine wpList_putf rfl _ _ _ rfl m x.l.length (backF x.l) rfl MW.out (by have := HL.out; unfold maxLen; omega) b (f1, f2) rfl rfl HBW.out ?_; intro w4 hm9 hg9; have M4 := Lib.hid hm9; have G4 := Lib.hid (grown_keeps hg9); clear hm9 hg9)
    have hGx := Lib.hid ((G4.out.block xb (Nat.lt_of_lt_of_le (Array.getElem?_eq_some_iff.1 G2.out).1 HWB.out.size) (fun c => HMX.out (by cases c; rfl))).trans ((HWB.out.block _ (Array.getElem?_eq_some_iff.1 G2.out).1).trans G2.out))
    have hK4 := Lib.hid (own_keepsS (own_fr K2.out (below_fr HWB.out (fun _ => false) false) rfl) G4.out (fun k hk c => (HKX.out k hk).2 (by cases c; rfl)))
    have hL4 := Lib.hid (own_keepsS (own_fr L2.out (below_fr HWB.out (fun _ => false) false) rfl) G4.out (fun k hk c => (HWK.out k hk).2.1 (by cases c; rfl)))
    have hW4 : Hid (Keeps (NSet xb x.kb m) w w4) := ((below_keeps (HB2.out.trans (HWB.out.mono HB2.out.size)) (NSet xb x.kb m)).trans G4.out).mono fun k hk c => by
      rcases c with c | c
      · exact c
      · cases c; exact .inr (.inr rfl)
    have hs4 : Hid (lo ≤ w4.heap.size) := Nat.le_trans HLO.out hW4.out.size
    have c2 : w4.cell? ⟨xb, 2, none⟩ = some (.slice a x.l.length cap) := by rw [← HVB.out]; exact hcell hGx.out 2
    clear MW HWB K2 L2 M2 Z2 G2 HB2 G4
    go_wp2_with (at_builtin; refine wpList_append_lies _ rfl _ _ 132 rfl lo 3 i0 (.int .i64 0) 1 8 Tryz.underlying132 HI.out HZ0.out HZ1.out HZ2.out rfl (by decide) (.slice a x.l.length cap) x.l.length (intV (bks x.l)) rfl (by rw [← HVB.out]; exact hK4.out.alloc _) ⟨w4.heap.size, 0, none⟩ 1 1 [.int .i64 b] rfl rfl ?c1 ?c2 (by decide) ?c3 ?c4 ?c5 (w4.heap.size + 1) (by simp) ?_)
    case c1 => exact World.news_of_block (heap_alloc_new w4 _)
    case c2 => simp [Value.oneCell']
    case c3 => have := HL.out; unfold maxLen; omega
    case c4 => have := HL.out; omega
    case c5 => have := hs4.out; simp; omega
    intro kb c6 w6 hown' hgrow hkb hlt6
    have hb5 := below_alloc w4 (.cells #[.int .i64 b] 3)
    have gk := grown_keeps hgrow
    rw [← HVB.out] at gk hkb
    have hx5 := (hb5.block _ (Array.getElem?_eq_some_iff.1 hGx.out).1).trans hGx.out
    have hx6 := (gk.block xb (Array.getElem?_eq_some_iff.1 hx5).1 (fun c => (HKX.out xb c).1 rfl)).trans hx5
    have hM6 := keeps_mp (M4.out.below hb5) gk (fun c => (HKX.out m c).2 rfl)
    have hL6 := own_keepsS (own_fr hL4.out (below_fr hb5 (fun _ => false) false) rfl) gk (fun k hk c => (HWK.out k hk).2.2 c)
    have hW6 : Keeps (NSet xb x.kb m) w w6 := (((hW4.out.trans (below_keeps hb5 (NSet xb x.kb m))).trans gk).mono fun k hk c => by
      rcases c with (c | c) | c
      · exact c
      · exact c
      · exact .inr (.inl (HVK.out k c)))
    have hkb2 : kb = x.kb ∨ w.heap.size ≤ kb := by
      rcases hkb with h | h
      · exact .inl (HVK.out kb h)
      · have := hW4.out.size; exact .inr (by omega)
    have hwb : ∀ k, vw.ownBlock = some k → k ≠ xb := fun k hk => (HWK.out k hk).1
    have hkx2 : kb ≠ xb := by
      rcases hkb with h | h
      · exact (HKX.out kb h).1
      · have := HLT.out; have := hW4.out.size; omega
    have hfz : w6.frozen? ⟨xb, 2, none⟩ = false := hfrz hx6 2
    have c2' : w6.cell? ⟨xb, 2, none⟩ = some (.slice a x.l.length cap) := by rw [← HVB.out]; exact hcell hx6 2
    have fin : Hid (WayAt (w6.setCell ⟨xb, 2, none⟩ (.slice (some ⟨kb, 0, none⟩) (x.l.length + 1) c6)) lo xb { x with l := nodeL b (f1, f2) x.l, kb := kb } ∧ Keeps (NSet xb x.kb m) w (w6.setCell ⟨xb, 2, none⟩ (.slice (some ⟨kb, 0, none⟩) (x.l.length + 1) c6))) := by
      have hk := setCell_keeps w6 xb 2 (.slice (some ⟨kb, 0, none⟩) (x.l.length + 1) c6)
      have en : nodeL b (f1, f2) x.l = x.l ++ [(b, (f1, f2))] := if_neg hnm
      refine ⟨⟨H0.out.1, ⟨.slice (some ⟨kb, 0, none⟩) (x.l.length + 1) c6, vw, setCell_same hx6 2 _, ?_, own_keepsS hL6 hk (fun k hk c => hwb k hk c), .inl rfl⟩, fun m' hm' => ?_, H6.out, fun e => by rw [hcell (setCell_same hx6 2 _)]; exact congrArg some (H7.out e)⟩, (hW6.trans hk).mono fun k _ c => by rcases c with c | c; exact c; exact .inl c⟩
      · simp only [en, List.length_append, List.length_singleton, intV_snoc]
        exact own_keepsS hown' hk (fun k hk c => by simp only [Value.ownBlock, Option.some.injEq] at hk; subst hk; exact hkx2 c)
      · simp only at hm'
        rw [HM.out] at hm'
        cases hm'
        refine ⟨H0.out.2, ?_⟩
        simp only [en, List.length_append, List.length_singleton, backF_snoc hnm]
        exact keeps_mp hM6 hk (fun c => HMX.out c)
    have HK2 := Lib.hid hkb2
    clear hown' hgrow hkb hlt6 hb5 gk hx5 hM6 hL6 hW6 hkb2 hwb hkx2 hx6 c2
    go_wp2
    go_end0
    exact ⟨rfl, kb, fin.out.1, fin.out.2, HK2.out⟩
end Go.Proofs.YtmakjfeepmiggaaGreat
namespace Go.Proofs.YtmakjfeepmiggaaGreat
open Go.Shelf
def revS_ren : Go.Shelf.Ren := ⟨fun | 35 => 137 | n => n, fun | 22 => 54 | 23 => 71 | 3 => 3 | 4 => 4 | 0 => 0 | n => n, fun | n => n⟩
theorem revS : Go.Proofs.SlLaysE0.n35 Tryz.prog revS_ren := {
  mixed := by kernel_rfl
  f35 := ⟨Tryz.f137.name, by decide, Tryz.func137.trans (congrArg some (by kernel_rfl))⟩
  t0 := Tryz.underlying0
  a0 := Tryz.isAgg0
  z0 := Tryz.sizeOf0
  v0 := Tryz.zeroValue0
  t3 := Tryz.underlying3
  a3 := Tryz.isAgg3
  z3 := Tryz.sizeOf3
  v3 := Tryz.zeroValue3
  t4 := Tryz.underlying4
  a4 := Tryz.isAgg4
  z4 := Tryz.sizeOf4
  v4 := Tryz.zeroValue4
  t22 := Tryz.underlying54
  a22 := Tryz.isAgg54
  z22 := Tryz.sizeOf54
  v22 := Tryz.zeroValue54 }
end Go.Proofs.YtmakjfeepmiggaaGreat